/- Texts of this claim, merged; of each text just what the theorem uses: GRefA, GOfA, GOfB, GOf, GTurn, GRefB, RefWay, GRefC -/
import Derived.Test.YtlccejbomgknkaaQO3
import Derived.Laws.AppendOwnNone
import Derived.Deep.QuietTactic
import Derived.BigQuiet
namespace Go.Proofs.Ytlccejbomgknkaa
set_option linter.unusedVariables false
set_option linter.unusedSimpArgs false
open Go.RowKit Go.Maps Go.Proofs.YtlccejbomgknkaaW.PrintWords Go.Proofs.YtlccejbomgknkaaW.PrintLast
open PGraphFinds
theorem w64 {n : Nat} (h : n ≤ 100000000) : wrap64 ((n : Int) + 1) = ((n + 1 : Nat) : Int) := by
  unfold wrap64
  omega
theorem toL {a b : ByteArray} : a.toList = b.toList ↔ a = b := by
  rw [ByteArray.toList_eq, ByteArray.toList_eq]
  exact ⟨fun h => bs_inj h, fun h => by rw [h]⟩
theorem rise_insert {l : List ByteArray} {x : ByteArray} {p : Nat} (hr : Rise l) (hp : p ≤ l.length) (h1 : ∀ j z, j < p → l[j]? = some z → bs z < bs x) (h2 : ∀ z, l[p]? = some z → bs x < bs z) :
    Rise (l.take p ++ [x] ++ l.drop p) ∧ ∀ z, z ∈ l.take p ++ [x] ++ l.drop p ↔ z ∈ l ∨ z = x := by
  have hr' : Rise (l.take p ++ l.drop p) := by rw [List.take_append_drop]; exact hr
  unfold Rise at hr' ⊢
  rw [List.pairwise_append] at hr'
  obtain ⟨ha, hb, hab⟩ := hr'
  have hx1 : ∀ z ∈ l.take p, bs z < bs x := by
    intro z hz
    obtain ⟨j, hj⟩ := List.getElem?_of_mem hz
    rw [List.getElem?_take] at hj
    split at hj
    · rename_i hjp
      exact h1 j z hjp hj
    · cases hj
  have hx2 : ∀ z ∈ l.drop p, bs x < bs z := by
    intro z hz
    cases hd : l.drop p with
    | nil => rw [hd] at hz; exact absurd hz List.not_mem_nil
    | cons y t =>
      have hy : l[p]? = some y := by
        have : (l.drop p)[0]? = some y := by rw [hd]; rfl
        rw [List.getElem?_drop] at this
        simpa using this
      have hxy := h2 y hy
      rw [hd] at hz hb
      rcases List.mem_cons.1 hz with rfl | hz
      · exact hxy
      · exact List.lt_trans hxy ((List.pairwise_cons.1 hb).1 z hz)
  refine ⟨?_, fun z => ?_⟩
  · rw [List.append_assoc, List.pairwise_append]
    refine ⟨ha, ?_, ?_⟩
    · rw [List.singleton_append, List.pairwise_cons]
      exact ⟨hx2, hb⟩
    · intro a ham b hbm
      rw [List.singleton_append, List.mem_cons] at hbm
      rcases hbm with rfl | hbm
      · exact hx1 a ham
      · exact hab a ham b hbm
  · have : z ∈ l ↔ z ∈ l.take p ∨ z ∈ l.drop p := by rw [← List.mem_append, List.take_append_drop]
    rw [this]
    simp only [List.mem_append, List.mem_singleton]
    exact ⟨fun h => h.elim (fun h => h.elim (fun h => .inl (.inl h)) .inr) (fun h => .inl (.inr h)), fun h => h.elim (fun h => h.elim (fun h => .inl (.inl h)) .inr) (fun h => .inl (.inr h))⟩
theorem sorted_l1 {x0 : List ByteArray} {i : Nat} (hi : i < x0.length) (hb : x0.length ≤ 1000000) {P : List ByteArray → Prop}
    {x3 : List ByteArray} (hr : Rise x3) (hl : x3.length ≤ 1000000) (H : ∀ x3', Rise x3' → (∀ z, z ∈ x3' ↔ z ∈ x3 ∨ z = rdOf ByteArray.empty x0 (i : Int)) → ∃ k r, brickyardref19_Sorted.l0 k x0 x3' (i + 1 : Nat) = some r ∧ P r) :
    ∀ (m p : Nat), p ≤ x3.length → x3.length ≤ m + p → (∀ j z, j < p → x3[j]? = some z → bs z < bs (rdOf ByteArray.empty x0 (i : Int))) → ∃ k r, brickyardref19_Sorted.l1 k x0 x3 (i : Int) (p : Int) = some r ∧ P r := by
  intro m
  induction m with
  | zero =>
    intro p hp hm hlt
    have hpe : p = x3.length := by omega
    subst hpe
    obtain ⟨h1, h2⟩ := rise_insert (x := rdOf ByteArray.empty x0 (i : Int)) hr (Nat.le_refl _) hlt (fun z hz => by simp at hz)
    obtain ⟨k, r, hk, hP⟩ := H _ h1 h2
    refine ⟨k + 1, r, ?_, hP⟩
    rw [← hk]
    simp only [brickyardref19_Sorted.l1]
    rw [if_neg (by omega)]
    simp only [Option.bind_some]
    rw [if_pos (by omega), if_pos (by omega), if_pos (by simp), if_pos (by omega), if_pos (by omega), if_pos (by simp; omega), if_pos (by simp; omega), w64 (by omega)]
    simp
  | succ m ih =>
    intro p hp hm hlt
    by_cases hpl : p < x3.length
    · have hgp := has_at hpl
      by_cases hless : bs (rdOf ByteArray.empty x3 (p : Int)) < bs (rdOf ByteArray.empty x0 (i : Int))
      · obtain ⟨k, r, hk, hP⟩ := ih (p + 1) (by omega) (by omega) (fun j z hj hz => by
          by_cases e : j = p
          · subst e
            rw [hgp] at hz
            injection hz with hz
            rw [← hz]; exact hless
          · exact hlt j z (by omega) hz)
        refine ⟨k + 1, r, ?_, hP⟩
        simp only [brickyardref19_Sorted.l1]
        rw [if_pos (by omega), if_pos (by omega), if_pos (by omega), if_pos (by omega), less_bs, if_pos (decide_eq_true hless), w64 (by omega)]
        exact hk
      · by_cases heq : rdOf ByteArray.empty x3 (p : Int) = rdOf ByteArray.empty x0 (i : Int)
        · obtain ⟨k, r, hk, hP⟩ := H x3 hr (fun z => ⟨fun h => .inl h, fun h => h.elim id (fun h => by rw [h, ← heq]; exact List.mem_of_getElem? hgp)⟩)
          refine ⟨k + 1, r, ?_, hP⟩
          simp only [brickyardref19_Sorted.l1]
          rw [if_pos (by omega), if_pos (by omega), if_pos (by omega), if_pos (by omega), less_bs, if_neg (by simpa using hless), if_pos (toL.2 heq), w64 (by omega)]
          exact hk
        · obtain ⟨h1, h2⟩ := rise_insert (x := rdOf ByteArray.empty x0 (i : Int)) hr hp hlt (fun z hz => by
            rw [hgp] at hz
            injection hz with hz
            subst hz
            exact Classical.byContradiction fun hn => heq (bs_inj (List.le_antisymm (List.not_lt.1 hn) (List.not_lt.1 hless))))
          obtain ⟨k, r, hk, hP⟩ := H _ h1 h2
          refine ⟨k + 1, r, ?_, hP⟩
          simp only [brickyardref19_Sorted.l1]
          rw [if_pos (by omega), if_pos (by omega), if_pos (by omega), if_pos (by omega), less_bs, if_neg (by simpa using hless), if_neg (fun h => heq (toL.1 h))]
          simp only [Option.bind_some]
          rw [if_pos (by omega), if_pos (by simp; omega), if_pos (by simp; omega), if_pos (by simp; omega), w64 (by omega)]
          simpa using hk
    · exact ih p hp (by omega) hlt
theorem sorted_law {x0 : List ByteArray} (hb : x0.length ≤ 1000000) : ∃ k r, brickyardref19_Sorted.f k x0 = some r ∧ Rise r ∧ ∀ z, z ∈ r ↔ z ∈ x0 := by
  have key : ∀ (m i : Nat), i ≤ x0.length → x0.length ≤ m + i → ∀ x3, Rise x3 → (∀ z, z ∈ x3 ↔ z ∈ x0.take i) → ∃ k r, brickyardref19_Sorted.l0 k x0 x3 (i : Int) = some r ∧ (Rise r ∧ ∀ z, z ∈ r ↔ z ∈ x0) := by
    intro m
    induction m with
    | zero =>
      intro i hi hm x3 hr hmem
      refine ⟨1, x3, ?_, hr, fun z => ?_⟩
      · simp only [brickyardref19_Sorted.l0]
        rw [if_neg (by omega)]
      · rw [hmem z, List.take_of_length_le (by omega)]
    | succ m ih =>
      intro i hi hm x3 hr hmem
      by_cases hil : i < x0.length
      · have hxl : x3.length ≤ 1000000 := by
          have h1 := nodup_len (rise_nodup hr) (N := x0) (fun z hz => List.mem_of_mem_take ((hmem z).1 hz))
          omega
        obtain ⟨k, r, hk, hP⟩ := sorted_l1 hil hb (P := fun r => Rise r ∧ ∀ z, z ∈ r ↔ z ∈ x0) hr hxl (fun x3' hr' hm' => ih (i + 1) (by omega) (by omega) x3' hr' (fun z => by
          rw [hm' z, hmem z]
          exact (take_mem hil rfl z).symm)) x3.length 0 (by omega) (by omega) (fun j z hj => by omega)
        refine ⟨k + 1, r, ?_, hP⟩
        simp only [brickyardref19_Sorted.l0]
        rw [if_pos (by omega)]
        exact hk
      · exact ih i hi (by omega) x3 hr hmem
  obtain ⟨k, r, hk, hP⟩ := key x0.length 0 (by omega) (by omega) [] List.Pairwise.nil (fun z => by simp)
  exact ⟨k, r, hk, hP⟩
def Ev {α : Type} (f : Nat → Option α) (r : α) : Prop := ∃ k0, ∀ k, k0 ≤ k → f k = some r
theorem ev_of {α : Type} {f : Nat → Option α} {r : α} (hm : ∀ k, LeO (f k) (f (k + 1))) {k : Nat} (h : f k = some r) : Ev f r := by
  refine ⟨k, fun j hj => ?_⟩
  induction hj with
  | refl => exact h
  | step _ ih => exact hm _ _ ih
theorem Ev.both {α β : Type} {f : Nat → Option α} {g : Nat → Option β} {r : α} {s : β} (hf : Ev f r) (hg : Ev g s) : ∃ k0, ∀ k, k0 ≤ k → f k = some r ∧ g k = some s := by
  obtain ⟨a, ha⟩ := hf
  obtain ⟨b, hb⟩ := hg
  exact ⟨a + b, fun k hk => ⟨ha k (by omega), hb k (by omega)⟩⟩
theorem Ev.step {α : Type} {f : Nat → Option α} {g : Nat → Option α} {r : α} (hg : Ev g r) (h : ∃ k0, ∀ k, k0 ≤ k → f (k + 1) = g k) : Ev f r := by
  obtain ⟨a, ha⟩ := hg
  obtain ⟨b, hb⟩ := h
  refine ⟨a + b + 1, fun k hk => ?_⟩
  obtain ⟨j, rfl⟩ : ∃ j, k = j + 1 := ⟨k - 1, by omega⟩
  rw [hb j (by omega)]
  exact ha j (by omega)
theorem sorted_ev {x0 : List ByteArray} (hb : x0.length ≤ 1000000) : ∃ r, Ev (fun k => brickyardref19_Sorted.f k x0) r ∧ Rise r ∧ ∀ z, z ∈ r ↔ z ∈ x0 := by
  obtain ⟨k, r, hk, h1, h2⟩ := sorted_law hb
  exact ⟨r, ev_of (fun k => brickyardref19_Sorted.mono x0 k) hk, h1, h2⟩
theorem has_ev {x0 : List ByteArray} (hb : x0.length ≤ 1000000) (x : ByteArray) : Ev (fun k => brickyardref19_has.f k x0 x) (Lib.containsS x0 x) := by
  have key : ∀ (m i : Nat), i ≤ x0.length → x0.length ≤ m + i → x ∉ x0.take i → ∃ k, brickyardref19_has.l0 k x0 x (i : Int) = some (Lib.containsS x0 x) := by
    intro m
    induction m with
    | zero =>
      intro i hi hm hno
      rw [List.take_of_length_le (by omega)] at hno
      refine ⟨1, ?_⟩
      simp only [brickyardref19_has.l0]
      rw [if_neg (by omega), contains_no hno]
    | succ m ih =>
      intro i hi hm hno
      by_cases hil : i < x0.length
      · by_cases he : rdOf ByteArray.empty x0 (i : Int) = x
        · refine ⟨1, ?_⟩
          simp only [brickyardref19_has.l0]
          rw [if_pos (by omega), if_pos (by omega), if_pos (toL.2 he), contains_yes (by rw [← he]; exact List.mem_of_getElem? (has_at hil))]
        · obtain ⟨k, hk⟩ := ih (i + 1) (by omega) (by omega) (fun h => ((take_mem hil rfl x).1 h).elim hno (fun h => he h.symm))
          refine ⟨k + 1, ?_⟩
          simp only [brickyardref19_has.l0]
          rw [if_pos (by omega), if_pos (by omega), if_neg (fun h => he (toL.1 h)), w64 (by omega)]
          exact hk
      · exact ih i hi (by omega) hno
  obtain ⟨k, hk⟩ := key x0.length 0 (by omega) (by omega) (by simp)
  exact ev_of (fun k => brickyardref19_has.mono x0 x k) hk
def edg (l : List S45) (x y : ByteArray) : Prop := ∃ e ∈ l, e.f0 = x ∧ e.f1 = y
theorem rd_at {l : List S45} {i : Nat} (hi : i < l.length) : l[i]? = some (rd_T45 l (i : Int)) := by
  unfold rd_T45
  rw [Int.toNat_natCast, List.getD_eq_getElem?_getD, List.getElem?_eq_getElem hi]
  rfl
theorem out_ev (gn : List ByteArray) {l : List S45} (hb : l.length ≤ 1000000) (x : ByteArray) : ∃ r, Ev (fun k => brickyardref19_Out.f k gn l x) r ∧ Rise r ∧ ∀ z, z ∈ r ↔ edg l x z := by
  have key : ∀ (m i : Nat), i ≤ l.length → l.length ≤ m + i → ∀ x5 : List ByteArray, x5.length ≤ i → (∀ z, z ∈ x5 ↔ edg (l.take i) x z) → ∃ k r, brickyardref19_Out.l0 k x x5 (i : Int) gn l = some r ∧ Rise r ∧ ∀ z, z ∈ r ↔ edg l x z := by
    intro m
    induction m with
    | zero =>
      intro i hi hm x5 hx hmem
      obtain ⟨k, r, hk, h1, h2⟩ := sorted_law (x0 := x5) (by omega)
      refine ⟨k + 1, r, ?_, h1, fun z => ?_⟩
      · simp only [brickyardref19_Out.l0]
        rw [if_neg (by omega), hk]
        rfl
      · rw [h2 z, hmem z, List.take_of_length_le (by omega)]
    | succ m ih =>
      intro i hi hm x5 hx hmem
      by_cases hil : i < l.length
      · have hat := rd_at hil
        have htk : l.take (i + 1) = l.take i ++ [rd_T45 l (i : Int)] := by
          rw [List.take_add_one, hat]; rfl
        by_cases he : (rd_T45 l (i : Int)).f0 = x
        · obtain ⟨k, r, hk, h⟩ := ih (i + 1) (by omega) (by omega) (x5 ++ [(rd_T45 l (i : Int)).f1]) (by rw [List.length_append, List.length_singleton]; omega) (fun z => by
            rw [htk, List.mem_append, hmem z, List.mem_singleton]
            constructor
            · rintro (⟨e, h1, h2⟩ | rfl)
              · exact ⟨e, List.mem_append_left _ h1, h2⟩
              · exact ⟨_, List.mem_append_right _ (List.mem_singleton.2 rfl), he, rfl⟩
            · rintro ⟨e, h1, h2, h3⟩
              rcases List.mem_append.1 h1 with h1 | h1
              · exact .inl ⟨e, h1, h2, h3⟩
              · rw [List.mem_singleton] at h1
                subst h1
                exact .inr h3.symm)
          refine ⟨k + 1, r, ?_, h⟩
          simp only [brickyardref19_Out.l0]
          rw [if_pos (by omega), if_pos (by omega), if_pos (toL.2 he), if_pos (by omega), w64 (by omega)]
          exact hk
        · obtain ⟨k, r, hk, h⟩ := ih (i + 1) (by omega) (by omega) x5 (by omega) (fun z => by
            rw [htk, hmem z]
            constructor
            · rintro ⟨e, h1, h2⟩
              exact ⟨e, List.mem_append_left _ h1, h2⟩
            · rintro ⟨e, h1, h2, h3⟩
              rcases List.mem_append.1 h1 with h1 | h1
              · exact ⟨e, h1, h2, h3⟩
              · rw [List.mem_singleton] at h1
                subst h1
                exact absurd h2 he)
          refine ⟨k + 1, r, ?_, h⟩
          simp only [brickyardref19_Out.l0]
          rw [if_pos (by omega), if_pos (by omega), if_neg (fun h => he (toL.1 h)), w64 (by omega)]
          exact hk
      · exact ih i hi (by omega) x5 (by omega) hmem
  obtain ⟨k, r, hk, h⟩ := key l.length 0 (by omega) (by omega) [] (by simp) (fun z => ⟨fun h => absurd h List.not_mem_nil, fun ⟨e, h, _⟩ => by simp at h⟩)
  exact ⟨r, ev_of (fun k => brickyardref19_Out.mono gn l x k) hk, h⟩
end Go.Proofs.Ytlccejbomgknkaa
namespace Go.Proofs.Ytlccejbomgknkaa
set_option linter.unusedVariables false
set_option linter.unusedSimpArgs false
open Go.RowKit Go.Maps Go.Proofs.YtlccejbomgknkaaW.PrintWords Go.Proofs.YtlccejbomgknkaaW.PrintLast
abbrev Pr := ByteArray × ByteArray
def OwnE (w : World) (base : Nat) (A : Option Addr) (c : Nat) (xs : List Pr) : Prop := w.ownsRow base 45 2 (.slice A xs.length c) xs.length (flat2 xs)
theorem OwnE.nil (w : World) (base : Nat) : OwnE w base none 0 [] := World.ownsRow_nil w base 45 2
theorem OwnE.cells {w : World} {base c : Nat} {ap : Addr} {xs : List Pr} (h : OwnE w base (some ap) c xs) : ∀ j u, (flat2 xs)[j]? = some u → w.cell? (ap.add j) = some u := by
  intro j u hj
  rcases h.2 with ⟨h0, _⟩ | ⟨g, cap, cur, e, _, hg, _, _, hsz, htk⟩
  · cases h0
  · injection e with e1 e2 e3
    injection e1 with e1
    subst e1
    rw [Addr.add_lit, Nat.zero_add]
    have hcg : w.cell? ⟨g, j, none⟩ = cur[j]? := by simp [World.cell?, hg]
    rw [hcg, ← Array.getElem?_toList]
    rw [← htk, List.getElem?_take] at hj
    split at hj
    · exact hj
    · cases hj
theorem OwnE.reads {w : World} {base c : Nat} {A : Option Addr} {xs : List Pr} (h : OwnE w base A c xs) (hl : xs.length ≤ 1000000) : Kd.C kE w A xs.length xs := by
  cases A with
  | none =>
    rcases h.2 with ⟨_, h0⟩ | ⟨g, cap, cur, e, _⟩
    · have := List.eq_nil_of_length_eq_zero h0
      subst this
      exact kE_empty _ _
    · cases e
  | some ap =>
    have hc := h.cells
    refine ⟨rfl, by omega, fun _ => ⟨ap, rfl, fun j p hj => ⟨[.string p.1, .string p.2], rfl, ⟨[.string p.1], [.string p.2], rfl, rfl, rfl⟩, fun i u hu => ?_⟩⟩⟩
    obtain ⟨f1, f2⟩ := flat2_at xs j p hj
    match i, hu with
    | 0, hu => injection hu with hu; rw [← hu]; exact hc _ _ f1
    | 1, hu => injection hu with hu; rw [← hu]; exact hc _ _ f2
theorem OwnE.below {w w' : World} {base c : Nat} {A : Option Addr} {xs : List Pr} (h : OwnE w base A c xs) (hb : Below w.heap.size w w') : OwnE w' base A c xs :=
  World.ownsRow.kept h (row := none) ⟨hb.os, hb.tape, hb.output, hb.size, fun k hk _ => hb.block k hk⟩ (by
    rcases h.2 with ⟨e, _⟩ | ⟨g, cap, cur, e, _⟩
    · rw [e]; exact .inl rfl
    · rw [e]; exact .inr (by simp [Value.ownBlock]))
theorem OwnE.lt {w : World} {base c : Nat} {A : Option Addr} {xs : List Pr} (h : OwnE w base A c xs) {k : Nat} (hk : (Value.slice A xs.length c).ownBlock = some k) : base ≤ k ∧ k < w.heap.size := World.ownsRow.lt h k hk
theorem OwnE.block {w : World} {base c : Nat} {ap : Addr} {xs : List Pr} (h : OwnE w base (some ap) c xs) : ∃ cur, ap = ⟨ap.block, 0, none⟩ ∧ w.heap[ap.block]? = some (.cells cur 45 (0, 0)) ∧ xs.length ≤ c := by
  rcases h.2 with ⟨h0, _⟩ | ⟨g, cap, cur, e, _, hg, hl, _⟩
  · cases h0
  · injection e with e1 e2 e3
    injection e1 with e1
    subst e1
    subst e3
    exact ⟨cur, rfl, hg, hl⟩
theorem OwnS.block {w : World} {base c : Nat} {ap : Addr} {xs : List ByteArray} (h : OwnS w base (some ap) c xs) : ∃ cur, ap = ⟨ap.block, 0, none⟩ ∧ w.heap[ap.block]? = some (.cells cur 9 (0, 0)) ∧ xs.length ≤ c := by
  rcases h.2 with ⟨h0, _⟩ | ⟨g, cap, cur, e, _, hg, hl, _⟩
  · cases h0
  · injection e with e1 e2 e3
    injection e1 with e1
    subst e1
    subst e3
    exact ⟨cur, rfl, hg, hl⟩
theorem flat2_take (xs : List Pr) (k : Nat) : flat2 (xs.take k) = (flat2 xs).take (k * 2) := by
  induction xs generalizing k with
  | nil => simp [flat2]
  | cons x xs ih =>
    cases k with
    | zero => simp [flat2]
    | succ k =>
      have := ih k
      rw [show (k + 1) * 2 = k * 2 + 1 + 1 from by omega]
      simp only [flat2, List.take_succ_cons, List.flatMap_cons] at this ⊢
      rw [this]
      rfl
theorem flat2_append (xs ys : List Pr) : flat2 (xs ++ ys) = flat2 xs ++ flat2 ys := by simp [flat2]
theorem flat2_drop (xs : List Pr) (k : Nat) : flat2 (xs.drop k) = (flat2 xs).drop (k * 2) := by
  induction xs generalizing k with
  | nil => simp [flat2]
  | cons x xs ih =>
    cases k with
    | zero => simp [flat2]
    | succ k =>
      have := ih k
      rw [show (k + 1) * 2 = k * 2 + 1 + 1 from by omega]
      simp only [flat2, List.drop_succ_cons, List.flatMap_cons] at this ⊢
      rw [this]
      rfl
theorem OwnE.cut {w : World} {base c k : Nat} {ap : Addr} {xs : List Pr} (h : OwnE w base (some ap) c xs) (hk : k ≤ xs.length) : w.ownsRow base 45 2 (.slice (some ap) k c) k (flat2 (xs.take k)) := by
  rcases h.2 with ⟨h0, _⟩ | ⟨g, cap, cur, e, hb, hg, hl, hm, hsz, htk⟩
  · cases h0
  · injection e with e1 e2 e3
    injection e1 with e1
    subst e1
    subst e3
    refine ⟨by rw [flat2_len, List.length_take]; omega, .inr ⟨g, c, cur, rfl, hb, hg, by omega, hm, hsz, ?_⟩⟩
    rw [flat2_take, ← htk, List.take_take, Nat.min_eq_left (by omega)]
theorem one_flat2 (xs : List Pr) : ∀ u ∈ flat2 xs, u.oneCell' = true := by
  intro u hu
  obtain ⟨p, _, hp⟩ := List.mem_flatMap.1 hu
  simp only [List.mem_cons, List.not_mem_nil, or_false] at hp
  rcases hp with rfl | rfl <;> rfl
def plt (p q : Pr) : Prop := bs p.1 < bs q.1 ∨ (p.1 = q.1 ∧ bs p.2 < bs q.2)
def RiseP (l : List Pr) : Prop := l.Pairwise plt
theorem plt_irrefl (p : Pr) : ¬ plt p p := fun h => h.elim (fun h => List.lt_irrefl _ h) (fun h => List.lt_irrefl _ h.2)
theorem plt_trans {p q r : Pr} (h : plt p q) (k : plt q r) : plt p r := by
  rcases h with h | ⟨h1, h2⟩
  · rcases k with k | ⟨k1, k2⟩
    · exact .inl (List.lt_trans h k)
    · exact .inl (by rw [← k1]; exact h)
  · rcases k with k | ⟨k1, k2⟩
    · exact .inl (by rw [h1]; exact k)
    · exact .inr ⟨h1.trans k1, List.lt_trans h2 k2⟩
theorem plt_tri (p q : Pr) : plt p q ∨ p = q ∨ plt q p := by
  by_cases h1 : bs p.1 < bs q.1
  · exact .inl (.inl h1)
  · by_cases h2 : bs q.1 < bs p.1
    · exact .inr (.inr (.inl h2))
    · have e : p.1 = q.1 := bs_inj (List.le_antisymm (List.not_lt.1 h2) (List.not_lt.1 h1))
      by_cases h3 : bs p.2 < bs q.2
      · exact .inl (.inr ⟨e, h3⟩)
      · by_cases h4 : bs q.2 < bs p.2
        · exact .inr (.inr (.inr ⟨e.symm, h4⟩))
        · have e2 : p.2 = q.2 := bs_inj (List.le_antisymm (List.not_lt.1 h4) (List.not_lt.1 h3))
          exact .inr (.inl (Prod.ext e e2))
theorem riseP_nodup {l : List Pr} (h : RiseP l) : l.Nodup := h.imp (fun {a b} hab e => by subst e; exact plt_irrefl a hab)
theorem riseP_insert {l : List Pr} {x : Pr} {p : Nat} (hr : RiseP l) (hp : p ≤ l.length) (h1 : ∀ j z, j < p → l[j]? = some z → plt z x) (h2 : ∀ z, l[p]? = some z → plt x z) :
    RiseP (l.take p ++ [x] ++ l.drop p) ∧ ∀ z, z ∈ l.take p ++ [x] ++ l.drop p ↔ z ∈ l ∨ z = x := by
  have hr' : RiseP (l.take p ++ l.drop p) := by rw [List.take_append_drop]; exact hr
  unfold RiseP at hr' ⊢
  rw [List.pairwise_append] at hr'
  obtain ⟨ha, hb, hab⟩ := hr'
  have hx1 : ∀ z ∈ l.take p, plt z x := by
    intro z hz
    obtain ⟨j, hj⟩ := List.getElem?_of_mem hz
    rw [List.getElem?_take] at hj
    split at hj
    · rename_i hjp
      exact h1 j z hjp hj
    · cases hj
  have hx2 : ∀ z ∈ l.drop p, plt x z := by
    intro z hz
    cases hd : l.drop p with
    | nil => rw [hd] at hz; exact absurd hz List.not_mem_nil
    | cons y t =>
      have hy : l[p]? = some y := by
        have : (l.drop p)[0]? = some y := by rw [hd]; rfl
        rw [List.getElem?_drop] at this
        simpa using this
      have hxy := h2 y hy
      rw [hd] at hz hb
      rcases List.mem_cons.1 hz with rfl | hz
      · exact hxy
      · exact plt_trans hxy ((List.pairwise_cons.1 hb).1 z hz)
  refine ⟨?_, fun z => ?_⟩
  · rw [List.append_assoc, List.pairwise_append]
    refine ⟨ha, ?_, ?_⟩
    · rw [List.singleton_append, List.pairwise_cons]
      exact ⟨hx2, hb⟩
    · intro a ham b hbm
      rw [List.singleton_append, List.mem_cons] at hbm
      rcases hbm with rfl | hbm
      · exact hx1 a ham
      · exact hab a ham b hbm
  · have : z ∈ l ↔ z ∈ l.take p ∨ z ∈ l.drop p := by rw [← List.mem_append, List.take_append_drop]
    rw [this]
    simp only [List.mem_append, List.mem_singleton]
    exact ⟨fun h => h.elim (fun h => h.elim (fun h => .inl (.inl h)) .inr) (fun h => .inl (.inr h)), fun h => h.elim (fun h => h.elim (fun h => .inl (.inl h)) .inr) (fun h => .inl (.inr h))⟩
def flatN (l : List Pr) : List ByteArray := l.flatMap (fun p => [p.1, p.2])
theorem flatN_len (l : List Pr) : (flatN l).length = l.length * 2 := by
  induction l with
  | nil => rfl
  | cons p l ih => simp only [flatN, List.flatMap_cons, List.length_append, List.length_cons, List.length_nil] at ih ⊢; omega
theorem flatN_mem {l : List Pr} {z : ByteArray} : z ∈ flatN l ↔ ∃ e ∈ l, e.1 = z ∨ e.2 = z := by
  unfold flatN
  rw [List.mem_flatMap]
  constructor
  · rintro ⟨e, he, hz⟩
    simp only [List.mem_cons, List.not_mem_nil, or_false] at hz
    exact ⟨e, he, hz.elim (fun h => .inl h.symm) (fun h => .inr h.symm)⟩
  · rintro ⟨e, he, hz⟩
    refine ⟨e, he, ?_⟩
    simp only [List.mem_cons, List.not_mem_nil, or_false]
    exact hz.elim (fun h => .inl h.symm) (fun h => .inr h.symm)
theorem flatN_append (xs ys : List Pr) : flatN (xs ++ ys) = flatN xs ++ flatN ys := by simp [flatN]
end Go.Proofs.Ytlccejbomgknkaa
namespace Go.Proofs.Ytlccejbomgknkaa
set_option linter.unusedVariables false
set_option linter.unusedSimpArgs false
open Go.RowKit Go.Maps Go.Proofs.YtlccejbomgknkaaW.PrintWords Go.Proofs.YtlccejbomgknkaaW.PrintLast Go.Proofs.YtlccejbomgknkaaW.PrintMore
section
variable {w : World} {ops : Array Oper} {rest : List Oper} {o : Oper} {a : Act} {Q : Exit → Act → World → Prop}
set_option maxRecDepth 100000 in
theorem wpList_catS (hgd : o.guard = none) (s x : Operand) (ho : o.op = .call { callee := .builtin .append, args := #[s, x], argTypes := #[23, 23] })
    (base : Nat) (A : Addr) (c : Nat) (xs : List ByteArray) (hown : OwnS w base (some A) c xs) (hs : a.eval s = .slice (some A) xs.length c) (A2 : Option Addr) (c2 : Nat) (ys : List ByteArray) (hx : a.eval x = .slice A2 ys.length c2) (hy : Kd.C Kd.string w A2 ys.length ys) (hnil : A2 = none → c2 = 0)
    (hl : xs.length + ys.length ≤ 1000000) (hbase : base ≤ w.heap.size)
    (h : ∀ (A' : Addr) (c' : Nat) (w' : World), OwnS w' base (some A') c' (xs ++ ys) → w.grownBy w' (some A.block) → wpList Try.prog ops Q rest (a.put o.dst (.slice (some A') (xs ++ ys).length c')) w') : wpList Try.prog ops Q (o :: rest) a w := by
  obtain ⟨i0, hi, hz0, hz1, hz2⟩ := info_parts infoStr
  cases A2 with
  | none =>
    have h0 : ys = [] := by
      refine List.eq_nil_of_length_eq_zero (Nat.le_antisymm (Nat.le_of_not_lt fun hn => ?_) (Nat.zero_le _))
      obtain ⟨_, hA, _⟩ := hy.2.2 hn
      cases hA
    subst h0
    have hc2 := hnil rfl
    subst hc2
    refine wpList_append_own_none hgd s x 23 ho base 9 i0 1 Try.underlying23 hi _ xs.length (encs Value.string xs) hs hown hx ?_
    have := h A c w (by rw [List.append_nil]; exact hown) (World.grownBy.refl _ _)
    rw [List.append_nil] at this
    exact this
  | some ap =>
    refine wpList_append_own _ hgd s x 23 ho base 9 i0 (.string ⟨#[]⟩) 1 16 Try.underlying23 hi hz0 hz1 hz2 rfl (by decide) _ xs.length (encs Value.string xs) hs hown ap ys.length c2 (encs Value.string ys) hx (by rw [encs_length, Nat.mul_one]) ?_ ?_ ?a63 ?aby hbase ?_
    case a63 => simp only [maxLen]; omega
    case aby => omega
    · intro j u hj
      have hjl : j < ys.length := by have := (List.getElem?_eq_some_iff.1 hj).1; rwa [encs_length] at this
      obtain ⟨ad, hA, hc⟩ := Kd.at_string hy (j : Int) (by omega) (by omega)
      injection hA with hA
      subst hA
      simp only [Int.toNat_natCast] at hc
      rw [hc]
      unfold encs at hj
      rw [List.getElem?_map, has_at hjl] at hj
      injection hj with hj
      rw [← hj]
    · intro u hu
      obtain ⟨y, _, rfl⟩ := List.mem_map.1 hu
      rfl
    · intro v' w' h1 h2 h3
      have h1' : w'.ownsRow base 9 1 v' (xs ++ ys).length (encs Value.string (xs ++ ys)) := by rw [List.length_append, encs_append]; exact h1
      rcases h1'.2 with ⟨e, _⟩ | ⟨g', cap', cur, e, _⟩
      · exact absurd (h3.1 e).1 (by simp)
      · subst e
        exact h ⟨g', 0, none⟩ cap' w' h1' h2
end
def of6T : Bool × List (List Nat × List Nat) := (true, [([], []), ([], []), ([], []), ([1, 2], [1, 2]), ([3], [3]), ([4], [4]), ([], []), ([], []), ([6, 7], [6, 7]), ([8], [8]), ([9], [9]), ([5, 10], [5, 10]), ([0, 11], [0, 11]), ([12, 12, 0, 1, 2, 3, 4, 5, 6, 7, 8, 9, 10, 11, 12], [0, 12])])
def of6B : List Nat := [0, 0, 0, 6, 14, 30, 0, 0, 192, 448, 960, 2046, 4095, 8191]
theorem of6_tab : rtab .any (opsOf Try.f11 6) = of6T := by kernel_rfl
theorem of6_bits : waitsOk of6T.2 of6B = true := by kernel_rfl
def of12T : Bool × List (List Nat × List Nat) := (true, [([], []), ([0], [0]), ([], []), ([1, 2], [1, 2]), ([], []), ([], []), ([4, 5], [4, 5]), ([6], [6]), ([7], [7]), ([3, 8], [3, 8]), ([], []), ([9, 10, 9], [9, 10]), ([0, 1, 2, 3, 4, 5, 6, 7, 8, 9, 10, 11], []), ([12, 11, 11, 0, 1, 2, 3, 4, 5, 6, 7, 8, 9, 10, 11], [11, 12])])
def of12B : List Nat := [0, 1, 0, 7, 0, 0, 48, 112, 240, 511, 0, 2047, 4095, 8191]
theorem of12_tab : rtab .any (opsOf Try.f11 12) = of12T := by kernel_rfl
theorem of12_bits : waitsOk of12T.2 of12B = true := by kernel_rfl
theorem cell_grown {w w' : World} {row : Option Nat} {p : Addr} {v : Value} (g : w.grownBy w' row) (h : w.cell? p = some v) (hne : some p.block ≠ row) : w'.cell? p = some v := by
  have hs := World.cell?_spot h
  obtain ⟨b, o, sp⟩ := p
  have hs' : sp = none := hs
  subst hs'
  exact block_of_cell (g.block b (cell_lt h) hne) h
set_option maxRecDepth 100000 in
theorem two_step {W : World} {ops : Array Oper} {oi : Oper} {N : Option Tmp} {a : Act} {K : Act → World → Prop} {Q : Exit → Act → World → Prop} (hw : Region.wanted oi (yielded ops a.tmps) = true) (s x : Operand)
    (ho : oi.op = .call { callee := .builtin .append, args := #[s, x], argTypes := #[23, 23] }) (hN : oi.dst = N) (base : Nat) (A : Addr) (c n : Nat) (xs : List ByteArray) (hown : OwnS W base (some A) c xs) (hs : a.eval s = .slice (some A) n c) (x1 x2 : ByteArray)
    (hx : a.eval x = .slice (some ⟨W.heap.size, 0, none⟩) 2 2) (hn : Hid (n = xs.length)) (hl : n ≤ 3000) (hbase : base ≤ W.heap.size)
    (h : ∀ (A' : Addr) (c' : Nat) (w' : World), OwnS w' base (some A') c' (xs ++ [x1, x2]) → W.grownBy w' (some A.block) → K (a.put N (.slice (some A') (n + 2) c')) w') :
    if Region.wanted oi (yielded ops a.tmps) = true then Oper.wp Try.prog oi a (W.alloc (.cells #[.string x1, .string x2] 9)) K Q else K (a.put N undef) (W.alloc (.cells #[.string x1, .string x2] 9)) := by
  rw [if_pos hw]
  subst hN
  have hn' := hn.out
  subst hn'
  obtain ⟨i0, hi, hz0, hz1, hz2⟩ := info_parts infoStr
  have hy := C_two W x1 x2
  refine wp_append_own _ s x 23 ho base 9 i0 (.string ⟨#[]⟩) 1 16 Try.underlying23 hi hz0 hz1 hz2 rfl (by decide) _ xs.length (encs Value.string xs) hs (World.ownsRow.alloc hown _) ⟨W.heap.size, 0, none⟩ 2 2 (encs Value.string [x1, x2]) hx rfl ?_ ?_ ?a63 ?aby ?aba ?_
  case a63 => simp only [maxLen]; omega
  case aby => omega
  case aba => exact Nat.le_trans hbase (by simp)
  · intro j u hj
    have hjl : j < 2 := by have := (List.getElem?_eq_some_iff.1 hj).1; simpa [encs] using this
    obtain ⟨ad, hA, hc⟩ := Kd.at_string hy (j : Int) (by omega) (by simp; omega)
    injection hA with hA
    subst hA
    simp only [Int.toNat_natCast] at hc
    rw [hc]
    unfold encs at hj
    rw [List.getElem?_map, has_at (xs := [x1, x2]) (by simpa using hjl)] at hj
    injection hj with hj
    rw [← hj]
  · intro u hu
    obtain ⟨y, _, rfl⟩ := List.mem_map.1 hu
    rfl
  · intro v' w' h1 h2 h3
    have h1' : w'.ownsRow base 9 1 v' (xs ++ [x1, x2]).length (encs Value.string (xs ++ [x1, x2])) := by rw [List.length_append, encs_append]; exact h1
    obtain ⟨g', cap', rfl⟩ := Go.ownsRow_succ (k := xs.length + 1) h1
    exact h ⟨g', 0, none⟩ cap' w' (by unfold OwnS; rw [List.length_append]; rw [List.length_append] at h1'; exact h1') ((World.grownBy_alloc W _ _).trans h2)
theorem alloc_cell {w : World} {o : Obj} {p : Addr} {v : Value} (h : w.cell? p = some v) : (w.alloc o).cell? p = some v := Lib.cell?_alloc_some _ h
theorem nodup_lenP {s N : List Pr} (hs : s.Nodup) (h : ∀ x, x ∈ s → x ∈ N) : s.length ≤ N.length := nodup_len hs h
theorem new_cells {W : World} {pr : Pr} : ∀ j u, (flat2 [pr])[j]? = some u → (W.alloc (.cells #[.string pr.1, .string pr.2] 45)).cell? ((⟨W.heap.size, 0, none⟩ : Addr).add j) = some u := by
  intro j u hj
  have hc : (W.alloc (.cells #[.string pr.1, .string pr.2] 45)).heap[W.heap.size]? = some (.cells #[.string pr.1, .string pr.2] 45 (0, 0)) := (MapKept.heap_alloc W _).1
  rw [Addr.add_lit, Nat.zero_add]
  simp only [World.cell?, hc]
  simpa [flat2] using hj
theorem cell_below {w w' : World} {p : Addr} {v : Value} (hb : Below w.heap.size w w') (h : w.cell? p = some v) : w'.cell? p = some v := (hb.cell (World.block_lt_of_cell? _ _ h)).trans h
theorem drop_cells {w : World} {base c k q : Nat} {ap : Addr} {L : List Pr} {o : Obj} (h : OwnE w base (some ap) c L) : ∀ j u, (flat2 (L.drop k))[j]? = some u → ((w.drewN q).alloc o).cell? ((ap.add (k * 2)).add j) = some u := by
  intro j u hj
  rw [flat2_drop, List.getElem?_drop] at hj
  rw [Addr.add_add]
  exact alloc_cell (w := w.drewN q) (h.cells _ _ hj)
def OfIs (w : World) (l : List Pr) (names : List ByteArray) (e : Ending) (w' : World) : Prop :=
  ∃ (An : Option Addr) (cn : Nat) (rn : List ByteArray) (Ae : Option Addr) (ce : Nat) (re : List Pr), e = .returned (.agg #[.slice An rn.length cn, .slice Ae re.length ce]) ∧
    Kd.R Kd.string 9 w' w.heap.size (fun _ => True) (.slice An rn.length cn) rn ∧ OwnE w' w.heap.size Ae ce re ∧ Rise rn ∧ (∀ z, z ∈ rn ↔ z ∈ names ∨ ∃ e ∈ l, e.1 = z ∨ e.2 = z) ∧ RiseP re ∧ (∀ p, p ∈ re ↔ p ∈ l) ∧ Below w.heap.size w w'
theorem own_none {w : World} {base t size n c m : Nat} {xs : List Value} (h : w.ownsRow base t size (.slice none n c) m xs) : c = 0 := by
  rcases h.2 with ⟨e, _⟩ | ⟨g, cap, cur, e, _⟩
  · injection e
  · cases e
theorem R_none {w : World} {base c : Nat} {A : Option Addr} {rn : List ByteArray} (h : Kd.R Kd.string 9 w base (fun _ => True) (.slice A rn.length c) rn) : A = none → c = 0 := by
  rintro rfl
  obtain ⟨inner, ho⟩ := Kd.R_own h
  exact own_none ho
theorem OwnE.none {w : World} {base c : Nat} {A : Option Addr} {xs : List Pr} (h : OwnE w base A c xs) : A = none → c = 0 := by
  rintro rfl
  exact own_none h
theorem OwnE.cap {w : World} {base c : Nat} {A : Option Addr} {xs : List Pr} (h : OwnE w base A c xs) : xs.length ≤ c := by
  rcases h.2 with ⟨e, e2⟩ | ⟨g, cap, cur, e, _, _, hl, _⟩
  · omega
  · injection e with _ _ e3
    omega
structure OfS (w wr : World) (b4 b6 : Nat) (xs : List ByteArray) (M : List Pr) (A5 : Addr) (c5 : Nat) (Ae : Option Addr) (ce : Nat) (L : List Pr) : Prop where
  bl : Below w.heap.size w wr
  b4l : w.heap.size ≤ b4
  b6l : w.heap.size ≤ b6
  own : OwnS wr w.heap.size (some A5) c5 xs
  cell : wr.heap[b6]? = some (.cells #[.slice none 0 0, .slice Ae L.length ce] 29 (0, 0))
  res : wr.heap[b4]? = some (.cells #[.slice none 0 0, .slice none 0 0] 29 (0, 0))
  row : OwnE wr w.heap.size Ae ce L
  rise : RiseP L
  mem : ∀ p, p ∈ L ↔ p ∈ M
theorem OfS.gathered {w wr w6 : World} {b4 b6 : Nat} {xs ys : List ByteArray} {M : List Pr} {A5 A6 : Addr} {c5 c6 : Nat} {Ae : Option Addr} {ce : Nat} {L : List Pr} (h : OfS w wr b4 b6 xs M A5 c5 Ae ce L) (ho : OwnS w6 w.heap.size (some A6) c6 ys) (hg : wr.grownBy w6 (some A5.block)) : OfS w w6 b4 b6 ys M A6 c6 Ae ce L := by
  obtain ⟨cur, _, hb, _⟩ := OwnS.block h.own
  have hk : ∀ {k : Nat} {cs : Array Value}, wr.heap[k]? = some (.cells cs 29 (0, 0)) → w6.heap[k]? = some (.cells cs 29 (0, 0)) := by
    intro k cs hc
    refine (hg.block k (Array.getElem?_eq_some_iff.1 hc).1 (fun e => ?_)).trans hc
    injection e with e
    rw [e] at hc
    rw [hb] at hc
    injection hc with hc
    injection hc with _ hc
    exact absurd hc (by decide)
  refine ⟨h.bl.grown hg h.bl.size (fun k e => ?_), h.b4l, h.b6l, ho, hk h.cell, hk h.res, World.ownsRow.kept h.row hg ?_, h.rise, h.mem⟩
  · exact (OwnS.lt h.own (k := k) e).1
  · rcases h.row.2 with ⟨e, _⟩ | ⟨g, cap, cur2, e, _, hg2, _⟩
    · rw [e]; exact .inl rfl
    · rw [e]
      refine .inr (fun e2 => ?_)
      have e3 : some g = some A5.block := e2
      injection e3 with e3
      rw [e3, hb] at hg2
      injection hg2 with hg2
      injection hg2 with _ hg2
      exact absurd hg2 (by decide)
theorem OfS.below {w wr w' : World} {b4 b6 : Nat} {xs : List ByteArray} {M : List Pr} {A5 : Addr} {c5 : Nat} {Ae : Option Addr} {ce : Nat} {L : List Pr} (h : OfS w wr b4 b6 xs M A5 c5 Ae ce L) (hb : Below wr.heap.size wr w') : OfS w w' b4 b6 xs M A5 c5 Ae ce L :=
  ⟨h.bl.trans (hb.mono h.bl.size), h.b4l, h.b6l, OwnS.below h.own hb, (hb.block b6 (Array.getElem?_eq_some_iff.1 h.cell).1).trans h.cell, (hb.block b4 (Array.getElem?_eq_some_iff.1 h.res).1).trans h.res, OwnE.below h.row hb, h.rise, h.mem⟩
structure OfT (w wr : World) (b4 b6 : Nat) (xs : List ByteArray) (A5 : Addr) (c5 : Nat) (v : Value) : Prop where
  bl : Below w.heap.size w wr
  b4l : w.heap.size ≤ b4
  b6l : w.heap.size ≤ b6
  own : OwnS wr w.heap.size (some A5) c5 xs
  cell : wr.heap[b6]? = some (.cells #[.slice none 0 0, v] 29 (0, 0))
  res : wr.heap[b4]? = some (.cells #[.slice none 0 0, .slice none 0 0] 29 (0, 0))
theorem OfS.toT {w wr : World} {b4 b6 : Nat} {xs : List ByteArray} {M : List Pr} {A5 : Addr} {c5 : Nat} {Ae : Option Addr} {ce : Nat} {L : List Pr} (h : OfS w wr b4 b6 xs M A5 c5 Ae ce L) : OfT w wr b4 b6 xs A5 c5 (.slice Ae L.length ce) := ⟨h.bl, h.b4l, h.b6l, h.own, h.cell, h.res⟩
theorem OfT.alloc {w wr : World} {b4 b6 : Nat} {xs : List ByteArray} {A5 : Addr} {c5 : Nat} {v : Value} (h : OfT w wr b4 b6 xs A5 c5 v) (o : Obj) : OfT w (wr.alloc o) b4 b6 xs A5 c5 v :=
  ⟨h.bl.alloc h.bl.size _, h.b4l, h.b6l, OwnS.alloc h.own o, (alloc_same _ _ (Array.getElem?_eq_some_iff.1 h.cell).1).trans h.cell, (alloc_same _ _ (Array.getElem?_eq_some_iff.1 h.res).1).trans h.res⟩
theorem OfT.grown {w wr w' : World} {b4 b6 blk : Nat} {xs : List ByteArray} {A5 : Addr} {c5 : Nat} {v : Value} (h : OfT w wr b4 b6 xs A5 c5 v) (hg : wr.grownBy w' (some blk)) (hblk : ∃ cur, wr.heap[blk]? = some (.cells cur 45 (0, 0))) (hge : w.heap.size ≤ blk) : OfT w w' b4 b6 xs A5 c5 v := by
  obtain ⟨cur, hb⟩ := hblk
  have hk : ∀ {k : Nat} {cs : Array Value}, wr.heap[k]? = some (.cells cs 29 (0, 0)) → w'.heap[k]? = some (.cells cs 29 (0, 0)) := by
    intro k cs hc
    refine (hg.block k (Array.getElem?_eq_some_iff.1 hc).1 (fun e => ?_)).trans hc
    injection e with e
    rw [e, hb] at hc
    injection hc with hc
    injection hc with _ hc
    exact absurd hc (by decide)
  refine ⟨h.bl.grown hg h.bl.size (fun k e => by injection e with e; omega), h.b4l, h.b6l, World.ownsRow.kept h.own hg (.inr fun e2 => ?_), hk h.cell, hk h.res⟩
  obtain ⟨cur2, _, hb2, _⟩ := OwnS.block h.own
  have e3 : some A5.block = some blk := e2
  injection e3 with e3
  rw [e3, hb] at hb2
  injection hb2 with hb2
  injection hb2 with _ hb2
  exact absurd hb2 (by decide)
set_option maxRecDepth 100000 in
theorem catE_step {W : World} {ops : Array Oper} {oi : Oper} {N : Option Tmp} {a : Act} {K : Act → World → Prop} {Q : Exit → Act → World → Prop} (hw : Region.wanted oi (yielded ops a.tmps) = true) (s x : Operand)
    (ho : oi.op = .call { callee := .builtin .append, args := #[s, x], argTypes := #[22, 22] }) (hN : oi.dst = N) (base : Nat) (v : Value) (n : Nat) (xs : List Pr) (hown : W.ownsRow base 45 2 v n (flat2 xs)) (hs : a.eval s = v) (ap : Addr) (m c : Nat) (ys : List Pr)
    (hx : a.eval x = .slice (some ap) m c) (hm : m = ys.length) (hcells : ∀ j u, (flat2 ys)[j]? = some u → W.cell? (ap.add j) = some u) (hl : n + m ≤ 3000) (hbase : base ≤ W.heap.size)
    (h : ∀ (v' : Value) (w' : World), w'.ownsRow base 45 2 v' (n + m) (flat2 (xs ++ ys)) → W.grownBy w' v.ownBlock → K (a.put N v') w') :
    if Region.wanted oi (yielded ops a.tmps) = true then Oper.wp Try.prog oi a W K Q else K (a.put N undef) W := by
  rw [if_pos hw]
  subst hN
  obtain ⟨i0, hi, hz0, hz1, hz2⟩ := info_parts infoE
  refine wp_append_own _ s x 22 ho base 45 i0 (.agg #[(.string ⟨#[]⟩), (.string ⟨#[]⟩)]) 2 32 Try.underlying22 hi hz0 hz1 hz2 rfl (by decide) v n (flat2 xs) hs hown ap m c (flat2 ys) hx (by rw [flat2_len, hm]) hcells (one_flat2 ys) ?a63 ?aby hbase ?_
  case a63 => simp only [maxLen]; omega
  case aby => omega
  intro v' w' h1 h2 _
  exact h v' w' (by rw [flat2_append]; exact h1) h2
theorem OfS.drewN {w wr : World} {b4 b6 : Nat} {xs : List ByteArray} {M : List Pr} {A5 : Addr} {c5 : Nat} {Ae : Option Addr} {ce : Nat} {L : List Pr} (h : OfS w wr b4 b6 xs M A5 c5 Ae ce L) (q : Nat) : OfS w (wr.drewN q) b4 b6 xs M A5 c5 Ae ce L :=
  ⟨pw_below_drewN h.bl q, h.b4l, h.b6l, OwnS.below h.own (pw_below_drewN (Below.refl _ _) q), h.cell, h.res, OwnE.below h.row (pw_below_drewN (Below.refl _ _) q), h.rise, h.mem⟩
theorem OfS.edges {w wr : World} {b4 b6 : Nat} {xs : List ByteArray} {M : List Pr} {A5 : Addr} {c5 : Nat} {Ae : Option Addr} {ce : Nat} {L : List Pr} (h : OfS w wr b4 b6 xs M A5 c5 Ae ce L) : wr.cell? ⟨b6, 1, none⟩ = some (.slice Ae L.length ce) := by
  simp [World.cell?, h.cell]
theorem eqA45 (d : Nat) (w : World) (x0 y0 : ByteArray) (x1 y1 : ByteArray) :
    (Op.equalIn (d + 2) 45 (.agg #[.string x0, .string x1]) (.agg #[.string y0, .string y1])).run Try.prog w = .ok (x0.toList == y0.toList && (x1.toList == y1.toList)) w := by
  refine eqA_of Try.underlying45 (by kernel_rfl) ?_
  refine eqf_cons (by rfl) (by go_simp; rfl) (by go_simp; rfl) (by go_simp) ?_
  exact eqf_last (by rfl) (by go_simp; rfl) (by go_simp; rfl) (by go_simp)
theorem OfT.store {w wr : World} {b4 b6 : Nat} {xs : List ByteArray} {A5 : Addr} {c5 : Nat} {v : Value} (h : OfT w wr b4 b6 xs A5 c5 v) {g c n : Nat} {L : List Pr} (hn : n = L.length) (hrow : wr.ownsRow w.heap.size 45 2 (.slice (some ⟨g, 0, none⟩) n c) n (flat2 L)) (hr : RiseP L) {M : List Pr} (hm : ∀ p, p ∈ L ↔ p ∈ M) (hne : b4 ≠ b6) :
    OfS w (wr.setCell ⟨b6, 1, none⟩ (.slice (some ⟨g, 0, none⟩) n c)) b4 b6 xs M A5 c5 (some ⟨g, 0, none⟩) c L := by
  subst hn
  have hset : (wr.setCell ⟨b6, 1, none⟩ (.slice (some ⟨g, 0, none⟩) L.length c)).heap[b6]? = some (.cells #[.slice none 0 0, .slice (some ⟨g, 0, none⟩) L.length c] 29 (0, 0)) := by
    simpa using blk_set h.cell 1 (.slice (some ⟨g, 0, none⟩) L.length c)
  have hg : wr.grownBy (wr.setCell ⟨b6, 1, none⟩ (.slice (some ⟨g, 0, none⟩) L.length c)) (some b6) := ⟨rfl, rfl, rfl, by simp, fun k hk hne => Below.heap_setCell _ _ _ _ (fun e => hne (by rw [e]))⟩
  have hrow2 : OwnE (wr.setCell ⟨b6, 1, none⟩ (.slice (some ⟨g, 0, none⟩) L.length c)) w.heap.size (some ⟨g, 0, none⟩) c L := by
    refine World.ownsRow.kept hrow hg (.inr fun e => ?_)
    have e2 : some g = some b6 := e
    injection e2 with e2
    obtain ⟨cur, _, hb, _⟩ := OwnE.block (w := wr) hrow
    simp only at hb
    rw [e2, h.cell] at hb
    injection hb with hb
    injection hb with _ hb
    exact absurd hb (by decide)
  have hown2 : OwnS (wr.setCell ⟨b6, 1, none⟩ (.slice (some ⟨g, 0, none⟩) L.length c)) w.heap.size (some A5) c5 xs := by
    refine World.ownsRow.kept h.own hg (.inr fun e => ?_)
    have e2 : some A5.block = some b6 := e
    injection e2 with e2
    obtain ⟨cur, _, hb, _⟩ := OwnS.block h.own
    rw [e2, h.cell] at hb
    injection hb with hb
    injection hb with _ hb
    exact absurd hb (by decide)
  exact ⟨h.bl.grown hg h.bl.size (fun k e => by injection e with e; have := h.b6l; omega), h.b4l, h.b6l, hown2, hset, (Below.heap_setCell _ _ _ _ hne).trans h.res, hrow2, hr, hm⟩
theorem OfT.grown0 {w wr w' : World} {b4 b6 : Nat} {xs : List ByteArray} {A5 : Addr} {c5 : Nat} {v : Value} (h : OfT w wr b4 b6 xs A5 c5 v) (hg : wr.grownBy w' none) : OfT w w' b4 b6 xs A5 c5 v := by
  have hk : ∀ {k : Nat} {cs : Array Value}, wr.heap[k]? = some (.cells cs 29 (0, 0)) → w'.heap[k]? = some (.cells cs 29 (0, 0)) := fun hc =>
    (hg.block _ (Array.getElem?_eq_some_iff.1 hc).1 (fun e => by cases e)).trans hc
  exact ⟨h.bl.grown hg h.bl.size (fun k e => by cases e), h.b4l, h.b6l, World.ownsRow.kept h.own hg (.inr (by simp [Value.ownBlock])), hk h.cell, hk h.res⟩
theorem wpList_noneE {w w6 : World} {ops : Array Oper} {rest : List Oper} {o : Oper} {a : Act} {Q : Exit → Act → World → Prop} (hgd : o.guard = none) (s x : Operand)
    (ho : o.op = .call { callee := .builtin .append, args := #[s, x], argTypes := #[22, 22] }) (g : Nat) (hs : a.eval s = .slice (some ⟨g, 0, none⟩) 0 0) (hx : a.eval x = .slice none 0 0) (hb : Below w6.heap.size w6 w)
    (hown : w.ownsRow w6.heap.size 45 2 (.slice (some ⟨g, 0, none⟩) 0 0) 0 []) (h : ∀ (ar : Addr) (w7 : World), Below w6.heap.size w6 w7 → OwnE w7 w6.heap.size (some ar) 0 [] → wpList Try.prog ops Q rest (a.put o.dst (.slice (some ar) 0 0)) w7) : wpList Try.prog ops Q (o :: rest) a w := by
  obtain ⟨i0, hi45, hz0, hz1, hz2⟩ := info_parts infoE
  exact wpList_append_own_none hgd s x 22 ho w6.heap.size 45 i0 2 Try.underlying22 hi45 _ 0 [] hs hown hx (h _ _ hb hown)
theorem OfS.done {w w8 : World} {b6 base : Nat} {xs : List ByteArray} {M l : List Pr} {A5 : Addr} {c5 : Nat} {Ae : Option Addr} {ce : Nat} {L : List Pr} {names r : List ByteArray} {An : Option Addr} {cn : Nat} (h : OfS w w8 w.heap.size b6 xs M A5 c5 Ae ce L)
    (hR : Kd.R Kd.string 9 w8 base (fun _ => True) (.slice An r.length cn) r) (hbase : w.heap.size ≤ base) (hr : Rise r) (hm : ∀ z, z ∈ r ↔ z ∈ names ∨ ∃ e ∈ l, e.1 = z ∨ e.2 = z) (hp : ∀ p, p ∈ L ↔ p ∈ l) (hne : w.heap.size ≠ b6) (u1 u2 u3 : Value) :
    OfIs w l names (.returned (.agg #[.slice An r.length cn, .slice Ae L.length ce])) (((w8.setCell ⟨b6, 0, none⟩ u1).setCell ⟨w.heap.size, 0, none⟩ u2).setCell ⟨w.heap.size, 1, none⟩ u3) := by
  have hres : (w8.setCell ⟨b6, 0, none⟩ u1).heap[w.heap.size]? = some (.cells #[.slice none 0 0, .slice none 0 0] 29 (0, 0)) := (Below.heap_setCell _ _ _ _ hne).trans h.res
  have hres2 := blk_set hres 0 u2
  have ht : ∀ q, q ∈ 9 :: Kd.string.E → q ≠ 29 := by
    intro q hq
    have : q = 9 := by simpa [Kd.string, Kd.scalar] using hq
    omega
  have h1 := Kd.R_set (Kd.R_set (Kd.R_set hR h.cell ht 0 u1) hres ht 0 u2) hres2 ht 1 u3
  have hrow : OwnE (((w8.setCell ⟨b6, 0, none⟩ u1).setCell ⟨w.heap.size, 0, none⟩ u2).setCell ⟨w.heap.size, 1, none⟩ u3) w.heap.size Ae ce L := by
    refine own_move h.row (fun k hk => ?_)
    obtain ⟨cells, hc⟩ := own_typed h.row k hk
    have h2 : k ≠ b6 := by
      rintro rfl
      rw [h.cell] at hc
      injection hc with hc
      injection hc with _ hc
      exact absurd hc (by decide)
    have h3 : k ≠ w.heap.size := by
      rintro rfl
      rw [h.res] at hc
      injection hc with hc
      injection hc with _ hc
      exact absurd hc (by decide)
    rw [Below.heap_setCell _ _ _ _ h3, Below.heap_setCell _ _ _ _ h3, Below.heap_setCell _ _ _ _ h2]
  exact ⟨An, cn, r, Ae, ce, L, rfl, Kd.R_lower h1 hbase, hrow, hr, hm, h.rise, hp, ((h.bl.setCell h.b6l _).setCell (Nat.le_refl _) _).setCell (Nat.le_refl _) _⟩
end Go.Proofs.Ytlccejbomgknkaa
namespace Go.Proofs.Ytlccejbomgknkaa
set_option linter.unusedVariables false
set_option linter.unusedSimpArgs false
open Go.RowKit Go.Maps Go.Proofs.YtlccejbomgknkaaW.PrintWords Go.Proofs.YtlccejbomgknkaaW.PrintLast Go.Proofs.YtlccejbomgknkaaW.PrintMore
attribute [local go_sem high] eqA45
set_option maxRecDepth 100000 in
set_option maxHeartbeats 8000000 in
theorem Of_any {w : World} (A : Option Addr) (c : Nat) (l : List Pr) (A2 : Option Addr) (c2 : Nat) (names : List ByteArray) (hl : Kd.C kE w A l.length l) (hn : Kd.C Kd.string w A2 names.length names) (hnil : A2 = none → c2 = 0) (h1 : l.length ≤ 1000) (h2 : names.length ≤ 1000) :
    Calls Try.prog 11 #[.slice A l.length c, .slice A2 names.length c2] w (OfIs w l names) := by
  have X := Lib.hid (And.intro hl (And.intro hn hnil))
  clear hl hn hnil
  have hown0 : Hid (OwnS ((w.alloc (.cells #[.slice none 0 0, .slice none 0 0] 29)).alloc (.cells #[] 9)) w.heap.size (some ⟨w.heap.size + 1, 0, none⟩) 0 []) := by
    have := World.ownsRow_made (base := w.heap.size) (w.alloc (.cells #[.slice none 0 0, .slice none 0 0] 29)) #[] 0 (e := 9) (size := 1) (by simp) (Nat.zero_le _) rfl
    simp only [World.size_alloc] at this
    exact this
  have hb0 : Hid (Below w.heap.size w ((w.alloc (.cells #[.slice none 0 0, .slice none 0 0] 29)).alloc (.cells #[] 9))) := ((Below.refl _ w).alloc (Nat.le_refl _) _).alloc (by simp) _
  have hr0 : Hid (((w.alloc (.cells #[.slice none 0 0, .slice none 0 0] 29)).alloc (.cells #[] 9)).heap[w.heap.size]? = some (.cells #[.slice none 0 0, .slice none 0 0] 29 (0, 0))) :=
    (alloc_same _ _ (by simp)).trans (MapKept.heap_alloc w _).1
  have hn0 := Lib.hid (Kd.C_below X.out.2.1 hb0.out)
  go_enter Try.func11, Try.ntmps11
  go_wp2_with (at_builtin; refine wpList_catS rfl (.tmp 10) (.tmp 11) rfl w.heap.size ⟨w.heap.size + 1, 0, none⟩ 0 [] hown0.out rfl A2 c2 names rfl hn0.out X.out.2.2 (by simp; omega) (by simp; omega) ?_)
  intro A5 c5 w1 ho g1
  have Z1 := Lib.hid (And.intro ho (And.intro (hb0.out.grown g1 (by simp; omega) (fun k e => by injection e with e; omega)) ((g1.block w.heap.size (by simp; omega) (by simp)).trans hr0.out)))
  clear ho g1 hown0 hb0 hr0 hn0
  go_wp2_with fail
  obtain ⟨b6, hb6⟩ : ∃ b6, b6 = w1.heap.size := ⟨_, rfl⟩
  have h0 : OfS w (w1.alloc (.cells #[.slice none 0 0, .slice none 0 0] 29)) w.heap.size b6 (names ++ flatN (l.take 0)) (l.take 0) A5 c5 none 0 [] := by
    obtain ⟨ho, hb, hr⟩ := Z1.out
    refine ⟨hb.alloc hb.size _, Nat.le_refl _, by rw [hb6]; exact hb.size, ?_, by rw [hb6]; exact (MapKept.heap_alloc w1 _).1, (alloc_same _ _ (Array.getElem?_eq_some_iff.1 hr).1).trans hr, OwnE.nil _ _, List.Pairwise.nil, fun p => by simp⟩
    have := ho.alloc (.cells #[.slice none 0 0, .slice none 0 0] 29)
    simpa [flatN] using this
  have H0 := Lib.hid h0
  rw [← hb6]
  have hb46 : Hid (w.heap.size ≠ b6) := by
    obtain ⟨_, _, hr⟩ := Z1.out
    have h3 := (Array.getElem?_eq_some_iff.1 hr).1
    intro e
    omega
  clear h0 Z1 hb6
  go_loopg [5, 7] (l.length + 1) (fun q v5 v7 wr => ∃ (i n5 : Nat) (A5 : Addr) (c5 : Nat) (Ae : Option Addr) (ce : Nat) (L : List Pr), v5 = .slice (some A5) n5 c5 ∧ v7 = .int .i64 i ∧ i ≤ l.length ∧ q + i = l.length + 1 ∧ Hid (n5 = (names ++ flatN (l.take i)).length) ∧ Hid (OfS w wr w.heap.size b6 (names ++ flatN (l.take i)) (l.take i) A5 c5 Ae ce L))
  case atStart => exact ⟨0, names.length, A5, c5, none, 0, [], rfl, rfl, by omega, by omega, (show names.length = (names ++ flatN (l.take 0)).length by simp [flatN]), H0⟩
  case round =>
    obtain ⟨i, n5, A5, c5, Ae, ce, L, rfl, rfl, hi, hq, hn5', HA⟩ := hrel
    clear H0
    have hn5 := hn5'.out
    have hn5b : n5 ≤ 3000 := by
      rw [hn5, List.length_append, flatN_len, List.length_take]
      omega
    by_cases hlt : i < l.length
    · obtain ⟨ad, pr, hpr, hA, hc0, hc1⟩ := at_pair (Kd.C_below X.out.1 HA.out.bl) i hlt
      subst hA
      have HPR := Lib.hid hpr
      have hp0 : Hid (wr.drew.cell? (ad.add (i * 2)) = some (.string pr.1)) := hc0
      have hp1 : Hid (wr.drew.cell? ⟨(ad.add (i * 2)).block, (ad.add (i * 2)).off + 1, none⟩ = some (.string pr.2)) := hc1
      have hown : Hid (OwnS wr.drew w.heap.size (some A5) c5 (names ++ flatN (l.take i))) := HA.out.own
      have hbase : w.heap.size ≤ wr.drew.heap.size := HA.out.bl.size
      have hfar : some (ad.add (i * 2)).block ≠ some A5.block := fun e => by
        injection e with e
        have h1 := (OwnS.lt HA.out.own (k := A5.block) rfl).1
        obtain ⟨ad', _, _, hA', hca, _⟩ := at_pair X.out.1 i hlt
        injection hA' with hA'
        subst hA'
        have h2 := World.block_lt_of_cell? _ _ hca
        omega
      clear hpr hc0 hc1 hn5
      go_wp2_with fail
      refine start_ (n := 14) (S := fun w' => w'.cell? (ad.add (i * 2)) = some (.string pr.1) ∧ w'.cell? ⟨(ad.add (i * 2)).block, (ad.add (i * 2)).off + 1, none⟩ = some (.string pr.2)) (ds := []) #[false, false, false, false, false, false, false, false, false, false, false, false, false, false] (by kernel_rfl) rfl rfl ⟨hp0.out, hp1.out⟩ (fun hHeld => ?_); refine with_tabW of6_tab of6_bits (fun HT_ HW_ => ?_)
      refine pure_ (i := 0) (N := some 20) (v := ?_) (a' := ?_) #[true, false, false, false, false, false, false, false, false, false, false, false, false, false] rfl rfl (any_of HT_.out (by kernel_rfl)) (fun _ _ _ h => h) (Or.inl ⟨by rfl, ?_⟩) ?_ ?_
      rotate_left
      · intro w'
        go_simp
        with_reducible rfl
      rotate_left
      · simp only [Act.put, List.setIfInBounds_toArray, List.set_cons_zero, List.set_cons_succ, i64_w, i32_w]
        rfl
      refine pure_ (i := 1) (N := some 21) (v := ?_) (a' := ?_) #[true, true, false, false, false, false, false, false, false, false, false, false, false, false] rfl rfl (any_of HT_.out (by kernel_rfl)) (fun _ _ _ h => h) (Or.inl ⟨by rfl, ?_⟩) ?_ ?_
      rotate_left
      · intro w'
        go_simp
        with_reducible rfl
      rotate_left
      · simp only [Act.put, List.setIfInBounds_toArray, List.set_cons_zero, List.set_cons_succ, i64_w, i32_w]
        rfl
      refine pure_ (i := 2) (N := some 22) (v := ?_) (a' := ?_) #[true, true, true, false, false, false, false, false, false, false, false, false, false, false] rfl rfl (any_of HT_.out (by kernel_rfl)) (fun _ _ _ h => h) (Or.inl ⟨by rfl, ?_⟩) ?_ ?_
      rotate_left
      · intro w'
        go_simp
        with_reducible rfl
      rotate_left
      · simp only [Act.put, List.setIfInBounds_toArray, List.set_cons_zero, List.set_cons_succ, i64_w, i32_w]
        rfl
      refine pure_ (i := 3) (N := some 23) (v := ?_) (a' := ?_) #[true, true, true, true, false, false, false, false, false, false, false, false, false, false] rfl rfl (any_of HT_.out (by kernel_rfl)) (fun _ _ _ h => h) (Or.inl ⟨by rfl, ?_⟩) ?_ ?_
      rotate_left
      · intro w'
        go_simp
        with_reducible rfl
      rotate_left
      · simp only [Act.put, List.setIfInBounds_toArray, List.set_cons_zero, List.set_cons_succ, i64_w, i32_w]
        rfl
      refine pure_ (i := 4) (N := some 24) (v := ?_) (a' := ?_) #[true, true, true, true, true, false, false, false, false, false, false, false, false, false] rfl rfl (any_of HT_.out (by kernel_rfl)) (fun _ _ _ h => h) (Or.inl ⟨by rfl, ?_⟩) ?_ ?_
      rotate_left
      · intro w'
        go_simp
        with_reducible rfl
      rotate_left
      · simp only [Act.put, List.setIfInBounds_toArray, List.set_cons_zero, List.set_cons_succ, i64_w, i32_w]
        rfl
      refine pure_ (i := 6) (N := some 26) (v := ?_) (a' := ?_) #[true, true, true, true, true, false, true, false, false, false, false, false, false, false] rfl rfl (any_of HT_.out (by kernel_rfl)) (fun _ _ _ h => h) (Or.inl ⟨by rfl, ?_⟩) ?_ ?_
      rotate_left
      · intro w'
        go_simp
        with_reducible rfl
      rotate_left
      · simp only [Act.put, List.setIfInBounds_toArray, List.set_cons_zero, List.set_cons_succ, i64_w, i32_w]
        rfl
      refine pure_ (i := 7) (N := some 27) (v := ?_) (a' := ?_) #[true, true, true, true, true, false, true, true, false, false, false, false, false, false] rfl rfl (any_of HT_.out (by kernel_rfl)) (fun _ _ _ h => h) (Or.inl ⟨by rfl, ?_⟩) ?_ ?_
      rotate_left
      · intro w'
        go_simp
        with_reducible rfl
      rotate_left
      · simp only [Act.put, List.setIfInBounds_toArray, List.set_cons_zero, List.set_cons_succ, i64_w, i32_w]
        rfl
      refine pure_ (i := 8) (N := some 28) (v := ?_) (a' := ?_) #[true, true, true, true, true, false, true, true, true, false, false, false, false, false] rfl rfl (any_of HT_.out (by kernel_rfl)) (fun _ _ _ h => h) (Or.inl ⟨by rfl, ?_⟩) ?_ ?_
      rotate_left
      · intro w'
        go_simp
        with_reducible rfl
      rotate_left
      · simp only [Act.put, List.setIfInBounds_toArray, List.set_cons_zero, List.set_cons_succ, i64_w, i32_w]
        rfl
      refine pure_ (i := 9) (N := some 29) (v := ?_) (a' := ?_) #[true, true, true, true, true, false, true, true, true, true, false, false, false, false] rfl rfl (any_of HT_.out (by kernel_rfl)) (fun _ _ _ h => h) (Or.inl ⟨by rfl, ?_⟩) ?_ ?_
      rotate_left
      · intro w'
        go_simp
        with_reducible rfl
      rotate_left
      · simp only [Act.put, List.setIfInBounds_toArray, List.set_cons_zero, List.set_cons_succ, i64_w, i32_w]
        rfl
      refine take_ (i := 5) (N := some 25) (v := ?_) (a' := ?_) #[true, true, true, true, true, true, true, true, true, true, false, false, false, false] rfl rfl (take_ofW HT_.out HW_.out (by kernel_rfl)) (fun _ _ _ h => h) (Or.inl ⟨by rfl, ?_⟩) hHeld ?_ ?_
      rotate_left
      · rintro w' ⟨s0, s1⟩
        go_simp
        with_reducible rfl
      rotate_left
      · simp only [Act.put, List.setIfInBounds_toArray, List.set_cons_zero, List.set_cons_succ, i64_w, i32_w]
        rfl
      refine take_ (i := 10) (N := some 30) (v := ?_) (a' := ?_) #[true, true, true, true, true, true, true, true, true, true, true, false, false, false] rfl rfl (take_ofW HT_.out HW_.out (by kernel_rfl)) (fun _ _ _ h => h) (Or.inl ⟨by rfl, ?_⟩) hHeld ?_ ?_
      rotate_left
      · rintro w' ⟨s0, s1⟩
        go_simp
        with_reducible rfl
      rotate_left
      · simp only [Act.put, List.setIfInBounds_toArray, List.set_cons_zero, List.set_cons_succ, i64_w, i32_w]
        rfl
      refine one_ (i := 11) (N := some 31) #[true, true, true, true, true, true, true, true, true, true, true, true, false, false] rfl rfl (one_of HT_.out (by kernel_rfl)) (by decide) (fun K hK => ?_)
      refine value_ (w1 := ?_) (v := ?_) (by rfl) rfl ?_ ?_
      rotate_left 2
      · go_simp
        constructor
        · rfl
        · rfl
      refine hK.out _ _ ⟨alloc_cell hp0.out, alloc_cell hp1.out⟩ (fun hHeld => ?_)
      clear hK K
      refine norm_ (a' := ?_) ?_ ?_
      rotate_left
      · show Act.put _ (some 31) _ = _
        simp only [Act.put, List.setIfInBounds_toArray, List.set_cons_zero, List.set_cons_succ, i64_w, i32_w]
        rfl
      refine one_ (i := 12) (N := some 32) #[true, true, true, true, true, true, true, true, true, true, true, true, true, false] rfl rfl (one_of HT_.out (by kernel_rfl)) (by decide) (fun K hK => ?_)
      refine two_step (W := wr.drew) (by rfl) (.tmp 20) (.tmp 31) rfl rfl w.heap.size A5 c5 n5 (names ++ flatN (l.take i)) hown.out rfl pr.1 pr.2 rfl hn5' (by omega) hbase ?_
      intro A6 c6 w6 ho6 g6
      have hZ6 := Lib.hid (And.intro ho6 (And.intro g6 (And.intro (cell_grown g6 hp0.out hfar) (cell_grown g6 hp1.out hfar))))
      clear ho6 g6
      refine hK.out _ _ ⟨hZ6.out.2.2.1, hZ6.out.2.2.2⟩ (fun hHeld => ?_)
      clear hK K
      refine norm_ (a' := ?_) ?_ ?_
      rotate_left
      · show Act.put _ (some 32) _ = _
        simp only [Act.put, List.setIfInBounds_toArray, List.set_cons_zero, List.set_cons_succ, i64_w, i32_w]
        rfl
      refine pure_ (i := 13) (N := some 5) (v := ?_) (a' := ?_) #[true, true, true, true, true, true, true, true, true, true, true, true, true, true] rfl rfl (any_of HT_.out (by kernel_rfl)) (fun _ _ _ h => h) (Or.inl ⟨by rfl, ?_⟩) ?_ ?_
      rotate_left
      · intro w'
        go_simp
        with_reducible rfl
      rotate_left
      · simp only [Act.put, List.setIfInBounds_toArray, List.set_cons_zero, List.set_cons_succ, i64_w, i32_w]
        rfl
      refine done_ (done_of HT_.out (by kernel_rfl)) ?_
      have htk : l.take (i + 1) = l.take i ++ [pr] := by rw [List.take_add_one, HPR.out]; rfl
      have hxs : names ++ flatN (l.take i) ++ [pr.1, pr.2] = names ++ flatN (l.take (i + 1)) := by rw [htk, flatN_append, List.append_assoc]; rfl
      have hM6 : OfS w w6 w.heap.size b6 (names ++ flatN (l.take (i + 1))) (l.take i) A6 c6 Ae ce L := by
        rw [← hxs]
        exact HA.out.gathered hZ6.out.1 ⟨hZ6.out.2.1.os, hZ6.out.2.1.tape, hZ6.out.2.1.output, hZ6.out.2.1.size, hZ6.out.2.1.block⟩
      have hLl : L.length ≤ 1000 := by
        have := nodup_lenP (riseP_nodup HA.out.rise) (fun p hp => (HA.out.mem p).1 hp)
        rw [List.length_take] at this
        omega
      have M6 := Lib.hid hM6
      have E6 : Hid (w6.cell? (ad.add (i * 2)) = some (.string pr.1) ∧ w6.cell? ⟨(ad.add (i * 2)).block, (ad.add (i * 2)).off + 1, none⟩ = some (.string pr.2)) := ⟨hZ6.out.2.2.1, hZ6.out.2.2.2⟩
      have HTK := Lib.hid htk
      have HN : Hid (n5 + 2 = (names ++ flatN (l.take (i + 1))).length) := by
        have h1 := hn5'.out
        rw [htk, flatN_append, ← List.append_assoc, List.length_append, ← h1]
        rfl
      clear hM6 HA hZ6 hp0 hp1 hown hbase hfar hxs htk hHeld HT_ HW_ hn5'
      obtain ⟨q0, rfl⟩ : ∃ q0 : Nat, q0 = gk := ⟨_, rfl⟩
      go_wp2_with fail
      go_loopg [8] (L.length + 1) (fun q v8 wr => ∃ (k qq : Nat), v8 = .int .i64 k ∧ k ≤ L.length ∧ q + k = L.length + 1 ∧ wr = w6.drewN qq ∧ Hid (∀ j z, j < k → L[j]? = some z → plt z pr))
      case atStart => exact ⟨0, 0, rfl, by omega, by omega, rfl, fun j z hj => by omega⟩
      case round =>
        obtain ⟨k, qq, rfl, hk, hqk, rfl, HK⟩ := hrel
        have hce := M6.out.edges
        have hce2 : ∀ q, ((w6.drewN q).alloc (.cells #[] 45)).cell? ⟨b6, 1, none⟩ = some (.slice Ae L.length ce) := fun q => alloc_cell (w := w6.drewN q) hce
        have he0 := E6.out.1
        have he1 := E6.out.2
        have hiI : (i : Int) < (l.length : Int) := by omega
        have hi0 : (0 : Int) ≤ (i : Int) := by omega
        by_cases hkl : k < L.length
        · obtain ⟨ae, q2, hq2, hAe, hd0, hd1⟩ := at_pair (OwnE.reads M6.out.row (by omega)) k hkl
          subst hAe
          have hkI : (k : Int) < (L.length : Int) := by omega
          have hk0 : (0 : Int) ≤ (k : Int) := by omega
          have hkd : decide ((k : Int) < (L.length : Int)) = true := decide_eq_true hkI
          have HQ := Lib.hid hq2
          clear hq2
          have hround : ∀ qq2 : Nat, plt q2 pr → ∃ (k2 qq3 : Nat), Value.int .i64 ((k : Int) + 1) = .int .i64 k2 ∧ k2 ≤ L.length ∧ (L.length - k) + k2 = L.length + 1 ∧ w6.drewN (qq + qq2) = w6.drewN qq3 ∧ Hid (∀ j z, j < k2 → L[j]? = some z → plt z pr) := by
            intro qq2 hp
            refine ⟨k + 1, qq + qq2, by go_num, by omega, by omega, rfl, fun j z hj hz => ?_⟩
            by_cases e : j = k
            · subst e
              rw [HQ.out] at hz
              injection hz with hz
              rw [← hz]; exact hp
            · exact HK.out j z (by omega) hz
          have HR := Lib.hid hround
          clear hround
          by_cases hf : bs q2.1 < bs pr.1
          · have hb1 : Op.bytesLess q2.1.toList pr.1.toList = true := by rw [less_bs]; exact decide_eq_true hf
            have HF : Hid (plt q2 pr) := .inl hf
            clear hf
            go_wp2_with fail
            go_quiet (fail)
            go_wp2_with fail
            go_roundg (L.length - k)
            case measure => omega
            case rel => exact HR.out _ HF.out
          · have hb1 : Op.bytesLess q2.1.toList pr.1.toList = false := by rw [less_bs]; exact decide_eq_false hf
            by_cases he : q2.1 = pr.1
            · have hb2 : (q2.1.toList == pr.1.toList) = true := by rw [he]; exact beq_self_eq_true _
              by_cases hs : bs q2.2 < bs pr.2
              · have hb3 : Op.bytesLess q2.2.toList pr.2.toList = true := by rw [less_bs]; exact decide_eq_true hs
                have HF : Hid (plt q2 pr) := .inr ⟨he, hs⟩
                clear hs he hf
                go_wp2_with fail
                go_quiet (fail)
                go_wp2_with fail
                go_roundg (L.length - k)
                case measure => omega
                case rel => exact HR.out _ HF.out
              · have hb3 : Op.bytesLess q2.2.toList pr.2.toList = false := by rw [less_bs]; exact decide_eq_false hs
                have HF : Hid (¬ plt q2 pr) := fun h => h.elim hf (fun h => hs h.2)
                clear hs he hf
                go_wp2_with fail
                go_quiet (fail)
                go_wp2_with fail
                by_cases hs2 : q2.2 = pr.2
                · have hb4 : (q2.2.toList == pr.2.toList) = true := by rw [hs2]; exact beq_self_eq_true _
                  have HE : Hid (q2 = pr) := Prod.ext (toL.1 (beq_iff_eq.1 hb2)) hs2
                  clear hs2
                  go_quiet (fail)
                  go_wp2_with fail
                  go_roundg (l.length - i)
                  case measure => omega
                  case rel =>
                    have hin : pr ∈ L := by rw [← HE.out]; exact List.mem_of_getElem? HQ.out
                    have hmem : ∀ p, p ∈ L ↔ p ∈ l.take (i + 1) := by
                      intro p
                      rw [HTK.out, List.mem_append, List.mem_singleton, ← M6.out.mem p]
                      exact ⟨fun h => .inl h, fun h => h.elim id (fun h => by rw [h]; exact hin)⟩
                    exact ⟨i + 1, n5 + 2, A6, c6, some ae, ce, L, rfl, by go_num, by omega, by omega, HN.out, { (M6.out.drewN _) with mem := hmem }⟩
                · have hb4 : (q2.2.toList == pr.2.toList) = false := beq_eq_false_iff_ne.2 (fun h => hs2 (toL.1 h))
                  have HE : Hid (q2 ≠ pr) := fun e => hs2 (by rw [e])
                  clear hs2
                  go_quiet (fail)
                  have hcek : ¬ ce = k := by
                    obtain ⟨_, _, _, hro⟩ := OwnE.block M6.out.row
                    omega
                  obtain ⟨i0, hi45, hz0, hz1, hz2⟩ := info_parts infoE
                  go_wp2_with (at_builtin; refine wpList_append_own _ rfl (.tmp 99) (.tmp 103) 22 rfl w6.heap.size 45 i0 (.agg #[(.string ⟨#[]⟩), (.string ⟨#[]⟩)]) 2 32 Try.underlying22 hi45 hz0 hz1 hz2 rfl (by decide) _ 0 [] rfl (World.ownsRow_made _ #[] 0 (Nat.le_refl _) (Nat.zero_le _) rfl) (ae.add (k * 2)) (L.length - k) (ce - k) (flat2 (L.drop k)) rfl ?qc1 ?qc2 (one_flat2 _) ?qc4 ?qc5 ?qc6 ?_)
                  case qc1 => rw [flat2_len, List.length_drop]
                  case qc2 => exact drop_cells M6.out.row
                  case qc4 => unfold maxLen; omega
                  case qc5 => omega
                  case qc6 => simp
                  intro v7 w7 hown7 g7 hnil7
                  have hb7 : Below w6.heap.size w6 w7 := ((pw_below_drewN (Below.refl w6.heap.size w6) _).alloc (by simp) _).grown g7 (by simp) (fun k e => by simp [Value.ownBlock] at e; omega)
                  have M7 := Lib.hid (M6.out.below hb7)
                  have E7 : Hid (w7.cell? (ad.add (i * 2)) = some (.string pr.1) ∧ w7.cell? ⟨(ad.add (i * 2)).block, (ad.add (i * 2)).off + 1, none⟩ = some (.string pr.2)) := ⟨cell_below hb7 he0, cell_below hb7 he1⟩
                  obtain ⟨ar, cr, hv7⟩ : ∃ ar cr, v7 = .slice (some ar) (L.length - k) cr := by
                    have h7 := hown7
                    rcases h7.2 with ⟨e, _⟩ | ⟨g, cap, cur, e, _⟩
                    · exact (hnil7 e).elim
                    · exact ⟨_, _, e⟩
                  subst hv7
                  have R7 : Hid (OwnE w7 w6.heap.size (some ar) cr (L.drop k)) := by
                    unfold OwnE
                    rw [List.length_drop]
                    have h7 := hown7
                    exact h7
                  have S67 := Lib.hid hb7.size
                  clear hown7 g7 hnil7 hb7 hce hce2 he0 he1 hd0 hd1
                  go_wp2_with fail
                  have hc6 : Hid (w7.drew.cell? ⟨b6, 1, none⟩ = some (.slice (some ae) L.length ce)) := M7.out.edges
                  have hp0 : Hid (w7.drew.cell? (ad.add (i * 2)) = some (.string pr.1)) := E7.out.1
                  have hp1 : Hid (w7.drew.cell? ⟨(ad.add (i * 2)).block, (ad.add (i * 2)).off + 1, none⟩ = some (.string pr.2)) := E7.out.2
                  have hcut : Hid ((w7.drew.alloc (.cells #[.string pr.1, .string pr.2] 45)).ownsRow w.heap.size 45 2 (.slice (some ae) k ce) k (flat2 (L.take k))) := World.ownsRow.alloc (OwnE.cut (w := w7.drew) M7.out.row hk) _
                  have hkce : k ≤ ce := by
                    obtain ⟨_, _, _, hro⟩ := OwnE.block M6.out.row
                    omega
                  have hkI2 : (k : Int) ≤ (ce : Int) := by omega
                  have hbl7 : Hid (w.heap.size ≤ w7.heap.size) := M7.out.bl.size
                  have hae : Hid (w.heap.size ≤ ae.block ∧ ae.block < w6.heap.size) := OwnE.lt M6.out.row (k := ae.block) rfl
                  have hadl : Hid ((ad.add (i * 2)).block < w.heap.size) := by
                    obtain ⟨ad', _, _, hA', hca, _⟩ := at_pair X.out.1 i hlt
                    injection hA' with hA'
                    subst hA'
                    exact World.block_lt_of_cell? _ _ hca
                  have hb6e : Hid (b6 ≠ ae.block) := by
                    intro e
                    obtain ⟨cur, _, hg, _⟩ := OwnE.block M7.out.row
                    have h6 := M7.out.cell
                    rw [e, hg] at h6
                    injection h6 with h6
                    injection h6 with _ h6
                    exact absurd h6 (by decide)
                  refine start_ (n := 14) (S := fun w' => w'.cell? ⟨b6, 1, none⟩ = some (.slice (some ae) L.length ce) ∧ w'.cell? (ad.add (i * 2)) = some (.string pr.1) ∧ w'.cell? ⟨(ad.add (i * 2)).block, (ad.add (i * 2)).off + 1, none⟩ = some (.string pr.2)) (ds := [13]) #[false, false, false, false, false, false, false, false, false, false, false, false, false, false] (by kernel_rfl) rfl rfl ⟨hc6.out, hp0.out, hp1.out⟩ (fun hHeld => ?_); refine with_tabW of12_tab of12_bits (fun HT_ HW_ => ?_)
                  refine pure_ (i := 0) (N := some 105) (v := ?_) (a' := ?_) #[true, false, false, false, false, false, false, false, false, false, false, false, false, false] rfl rfl (any_of HT_.out (by kernel_rfl)) (fun _ _ _ h => h) (Or.inl ⟨by rfl, ?_⟩) ?_ ?_
                  rotate_left
                  · intro w'
                    go_simp
                    with_reducible rfl
                  rotate_left
                  · simp only [Act.put, List.setIfInBounds_toArray, List.set_cons_zero, List.set_cons_succ, i64_w, i32_w]
                    rfl
                  refine pure_ (i := 2) (N := some 107) (v := ?_) (a' := ?_) #[true, false, true, false, false, false, false, false, false, false, false, false, false, false] rfl rfl (any_of HT_.out (by kernel_rfl)) (fun _ _ _ h => h) (Or.inl ⟨by rfl, ?_⟩) ?_ ?_
                  rotate_left
                  · intro w'
                    go_simp
                    with_reducible rfl
                  rotate_left
                  · simp only [Act.put, List.setIfInBounds_toArray, List.set_cons_zero, List.set_cons_succ, i64_w, i32_w]
                    rfl
                  refine pure_ (i := 4) (N := some 109) (v := ?_) (a' := ?_) #[true, false, true, false, true, false, false, false, false, false, false, false, false, false] rfl rfl (any_of HT_.out (by kernel_rfl)) (fun _ _ _ h => h) (Or.inl ⟨by rfl, ?_⟩) ?_ ?_
                  rotate_left
                  · intro w'
                    go_simp
                    with_reducible rfl
                  rotate_left
                  · simp only [Act.put, List.setIfInBounds_toArray, List.set_cons_zero, List.set_cons_succ, i64_w, i32_w]
                    rfl
                  refine pure_ (i := 5) (N := some 110) (v := ?_) (a' := ?_) #[true, false, true, false, true, true, false, false, false, false, false, false, false, false] rfl rfl (any_of HT_.out (by kernel_rfl)) (fun _ _ _ h => h) (Or.inl ⟨by rfl, ?_⟩) ?_ ?_
                  rotate_left
                  · intro w'
                    go_simp
                    with_reducible rfl
                  rotate_left
                  · simp only [Act.put, List.setIfInBounds_toArray, List.set_cons_zero, List.set_cons_succ, i64_w, i32_w]
                    rfl
                  refine pure_ (i := 6) (N := some 111) (v := ?_) (a' := ?_) #[true, false, true, false, true, true, true, false, false, false, false, false, false, false] rfl rfl (any_of HT_.out (by kernel_rfl)) (fun _ _ _ h => h) (Or.inl ⟨by rfl, ?_⟩) ?_ ?_
                  rotate_left
                  · intro w'
                    go_simp
                    with_reducible rfl
                  rotate_left
                  · simp only [Act.put, List.setIfInBounds_toArray, List.set_cons_zero, List.set_cons_succ, i64_w, i32_w]
                    rfl
                  refine pure_ (i := 10) (N := some 115) (v := ?_) (a' := ?_) #[true, false, true, false, true, true, true, false, false, false, true, false, false, false] rfl rfl (any_of HT_.out (by kernel_rfl)) (fun _ _ _ h => h) (Or.inl ⟨by rfl, ?_⟩) ?_ ?_
                  rotate_left
                  · intro w'
                    go_simp
                    with_reducible rfl
                  rotate_left
                  · simp only [Act.put, List.setIfInBounds_toArray, List.set_cons_zero, List.set_cons_succ, i64_w, i32_w]
                    rfl
                  refine take_ (i := 1) (N := some 106) (v := ?_) (a' := ?_) #[true, true, true, false, true, true, true, false, false, false, true, false, false, false] rfl rfl (take_ofW HT_.out HW_.out (by kernel_rfl)) (fun _ _ _ h => h) (Or.inl ⟨by rfl, ?_⟩) hHeld ?_ ?_
                  rotate_left
                  · rintro w' ⟨s0, s1, s2⟩
                    go_simp
                    with_reducible rfl
                  rotate_left
                  · simp only [Act.put, List.setIfInBounds_toArray, List.set_cons_zero, List.set_cons_succ, i64_w, i32_w]
                    rfl
                  refine pure_ (i := 3) (N := some 108) (v := ?_) (a' := ?_) #[true, true, true, true, true, true, true, false, false, false, true, false, false, false] rfl rfl (any_of HT_.out (by kernel_rfl)) (fun _ _ _ h => h) (Or.inl ⟨by rfl, ?_⟩) ?_ ?_
                  rotate_left
                  · intro w'
                    go_simp
                    with_reducible rfl
                  rotate_left
                  · simp only [Act.put, List.setIfInBounds_toArray, List.set_cons_zero, List.set_cons_succ, i64_w, i32_w]
                    rfl
                  refine take_ (i := 7) (N := some 112) (v := ?_) (a' := ?_) #[true, true, true, true, true, true, true, true, false, false, true, false, false, false] rfl rfl (take_ofW HT_.out HW_.out (by kernel_rfl)) (fun _ _ _ h => h) (Or.inl ⟨by rfl, ?_⟩) hHeld ?_ ?_
                  rotate_left
                  · rintro w' ⟨s0, s1, s2⟩
                    go_simp
                    with_reducible rfl
                  rotate_left
                  · simp only [Act.put, List.setIfInBounds_toArray, List.set_cons_zero, List.set_cons_succ, i64_w, i32_w]
                    rfl
                  refine one_ (i := 8) (N := some 113) #[true, true, true, true, true, true, true, true, true, false, true, false, false, false] rfl rfl (one_of HT_.out (by kernel_rfl)) (by decide) (fun K hK => ?_)
                  refine value_ (w1 := ?_) (v := ?_) (by rfl) rfl ?_ ?_
                  rotate_left 2
                  · go_simp
                    constructor
                    · rfl
                    · rfl
                  refine hK.out _ _ ⟨alloc_cell hc6.out, alloc_cell hp0.out, alloc_cell hp1.out⟩ (fun hHeld => ?_)
                  clear hK K
                  refine norm_ (a' := ?_) ?_ ?_
                  rotate_left
                  · show Act.put _ (some 113) _ = _
                    simp only [Act.put, List.setIfInBounds_toArray, List.set_cons_zero, List.set_cons_succ, i64_w, i32_w]
                    rfl
                  refine one_ (i := 9) (N := some 114) #[true, true, true, true, true, true, true, true, true, true, true, false, false, false] rfl rfl (one_of HT_.out (by kernel_rfl)) (by decide) (fun K hK => ?_)
                  refine catE_step (by rfl) (.tmp 108) (.tmp 113) rfl rfl w.heap.size (.slice (some ae) k ce) k (L.take k) hcut.out rfl ⟨w7.heap.size, 0, none⟩ 1 1 [pr] rfl rfl (new_cells (W := w7.drew)) (by omega) (Nat.le_trans hbl7.out (by simp)) ?_
                  intro v9 w9 h9 g9
                  obtain ⟨g9b, c9, rfl⟩ := Go.ownsRow_succ h9
                  have Z9 : Hid (w9.cell? ⟨b6, 1, none⟩ = some (.slice (some ae) L.length ce) ∧ w9.cell? (ad.add (i * 2)) = some (.string pr.1) ∧ w9.cell? ⟨(ad.add (i * 2)).block, (ad.add (i * 2)).off + 1, none⟩ = some (.string pr.2)) := ⟨cell_grown g9 (alloc_cell hc6.out) (fun e => hb6e.out (by injection e)), cell_grown g9 (alloc_cell hp0.out) (fun e => by injection e with e; have := hae.out.1; have := hadl.out; omega), cell_grown g9 (alloc_cell hp1.out) (fun e => by injection e with e; have h := hae.out.1; have h2 := hadl.out; simp only at e; omega)⟩
                  have R9 : Hid (∀ j u, (flat2 (L.drop k))[j]? = some u → w9.cell? (ar.add j) = some u) := fun j u hj => cell_grown g9 (alloc_cell (w := w7.drew) (R7.out.cells j u hj)) (fun e => by
                    injection e with e
                    have h1 := (OwnE.lt R7.out (k := ar.block) rfl).1
                    have h2 := hae.out.2
                    have h3 : (ar.add j).block = ar.block := by
                      obtain ⟨_, e4, _⟩ := OwnE.block R7.out
                      rw [e4, Addr.add_lit]
                    omega)
                  have O9 := Lib.hid (And.intro h9 g9)
                  have T9 : Hid (OfT w w9 w.heap.size b6 (names ++ flatN (l.take (i + 1))) A6 c6 (.slice (some ae) L.length ce)) := by
                    have h1 : OfT w w7.drew w.heap.size b6 (names ++ flatN (l.take (i + 1))) A6 c6 (.slice (some ae) L.length ce) := (M7.out.drewN 1).toT
                    obtain ⟨cur, _, hg, _⟩ := OwnE.block M7.out.row
                    exact (h1.alloc (.cells #[.string pr.1, .string pr.2] 45)).grown g9 ⟨cur, (alloc_same w7.drew _ (Array.getElem?_eq_some_iff.1 hg).1).trans hg⟩ hae.out.1
                  clear h9 g9
                  refine hK.out _ _ Z9.out (fun hHeld => ?_)
                  clear hK K
                  refine norm_ (a' := ?_) ?_ ?_
                  rotate_left
                  · show Act.put _ (some 114) _ = _
                    simp only [Act.put, List.setIfInBounds_toArray, List.set_cons_zero, List.set_cons_succ, i64_w, i32_w]
                    rfl
                  refine one_ (i := 11) (N := some 116) #[true, true, true, true, true, true, true, true, true, true, true, true, false, false] rfl rfl (one_of HT_.out (by kernel_rfl)) (by decide) (fun K hK => ?_)
                  refine catE_step (by rfl) (.tmp 114) (.tmp 115) rfl rfl w.heap.size (.slice (some ⟨g9b, 0, none⟩) (k + 1) c9) (k + 1) (L.take k ++ [pr]) O9.out.1 rfl ar (L.length - k) cr (L.drop k) rfl (by rw [List.length_drop]) R9.out (by omega) (Nat.le_trans (Nat.le_trans hbl7.out (by simp)) O9.out.2.size) ?_
                  intro v11 w11 h11 g11
                  rw [show k + 1 + (L.length - k) = L.length + 1 from by omega] at h11
                  obtain ⟨g11b, c11, rfl⟩ := Go.ownsRow_succ h11
                  have T11 : Hid (OfT w w11 w.heap.size b6 (names ++ flatN (l.take (i + 1))) A6 c6 (.slice (some ae) L.length ce)) := by
                    rcases O9.out.1.2 with ⟨e, _⟩ | ⟨g, cap, cur, e, hge, hg, _⟩
                    · cases e
                    · injection e with e
                      injection e with e
                      injection e with e
                      subst e
                      exact T9.out.grown g11 ⟨cur, hg⟩ hge
                  have Z11 : Hid (w11.cell? ⟨b6, 1, none⟩ = some (.slice (some ae) L.length ce) ∧ w11.cell? (ad.add (i * 2)) = some (.string pr.1) ∧ w11.cell? ⟨(ad.add (i * 2)).block, (ad.add (i * 2)).off + 1, none⟩ = some (.string pr.2)) := by
                    have hge : w.heap.size ≤ g9b := (World.ownsRow.lt O9.out.1 g9b rfl).1
                    have had := hadl.out
                    refine ⟨by simp [World.cell?, T11.out.cell], cell_grown g11 Z9.out.2.1 (fun e => ?_), cell_grown g11 Z9.out.2.2 (fun e => ?_)⟩
                    · injection e with e
                      simp only at e
                      omega
                    · injection e with e
                      simp only at e
                      omega
                  have O11 := Lib.hid (And.intro h11 g11)
                  clear h11 g11
                  refine hK.out _ _ Z11.out (fun hHeld => ?_)
                  clear hK K
                  refine norm_ (a' := ?_) ?_ ?_
                  rotate_left
                  · show Act.put _ (some 116) _ = _
                    simp only [Act.put, List.setIfInBounds_toArray, List.set_cons_zero, List.set_cons_succ, i64_w, i32_w]
                    rfl
                  refine pure_ (i := 12) (N := some 117) (v := ?_) (a' := ?_) #[true, true, true, true, true, true, true, true, true, true, true, true, true, false] rfl rfl (any_of HT_.out (by kernel_rfl)) (fun _ _ _ h => h) (Or.inl ⟨by rfl, ?_⟩) ?_ ?_
                  rotate_left
                  · intro w'
                    go_simp
                    with_reducible rfl
                  rotate_left
                  · simp only [Act.put, List.setIfInBounds_toArray, List.set_cons_zero, List.set_cons_succ, i64_w, i32_w]
                    rfl
                  have hfz : w11.frozen? ⟨b6, 1, none⟩ = false := by simp [World.frozen?, T11.out.cell]
                  have hcl := Z11.out.1
                  refine last_ (i := 13) (N := none) #[true, true, true, true, true, true, true, true, true, true, true, true, true, true] rfl rfl (one_of HT_.out (by kernel_rfl)) (by decide) (fun K hK => ?_)
                  refine skip_ (w1 := ?_) (by rfl) rfl ?_ ?_
                  rotate_left
                  · go_simp
                    rfl
                  refine hK.out _ _ ?_
                  clear hK K
                  refine done_ (done_of HT_.out (by kernel_rfl)) ?_
                  go_wp2_with fail
                  go_roundg (l.length - i)
                  case measure => omega
                  case rel =>
                    obtain ⟨hri, hmi⟩ := riseP_insert M6.out.rise hk HK.out (fun z hz => by
                      rw [HQ.out] at hz
                      injection hz with hz
                      subst hz
                      exact (plt_tri q2 pr).elim (fun h => absurd h HF.out) (fun h => h.elim (fun h => absurd h HE.out) id))
                    have hLn : L.length + 1 = (L.take k ++ [pr] ++ L.drop k).length := by
                      simp only [List.length_append, List.length_take, List.length_drop, List.length_singleton]
                      omega
                    refine ⟨i + 1, n5 + 2, A6, c6, some ⟨g11b, 0, none⟩, c11, L.take k ++ [pr] ++ L.drop k, rfl, by go_num, by omega, by omega, HN.out, ?_⟩
                    exact T11.out.store hLn O11.out.1 hri (fun p => by rw [hmi p, HTK.out, List.mem_append, List.mem_singleton, M6.out.mem p]) hb46.out
            · have hb2 : (q2.1.toList == pr.1.toList) = false := beq_eq_false_iff_ne.2 (fun h => he (toL.1 h))
              have HF : Hid (¬ plt q2 pr) := fun h => h.elim hf (fun h => he h.1)
              have HE : Hid (q2 ≠ pr) := fun e => he (by rw [e])
              clear he hf
              go_wp2_with fail
              go_quiet (fail)
              go_wp2_with fail
              go_quiet (fail)
              have hcek : ¬ ce = k := by
                obtain ⟨_, _, _, hro⟩ := OwnE.block M6.out.row
                omega
              obtain ⟨i0, hi45, hz0, hz1, hz2⟩ := info_parts infoE
              go_wp2_with (at_builtin; refine wpList_append_own _ rfl (.tmp 99) (.tmp 103) 22 rfl w6.heap.size 45 i0 (.agg #[(.string ⟨#[]⟩), (.string ⟨#[]⟩)]) 2 32 Try.underlying22 hi45 hz0 hz1 hz2 rfl (by decide) _ 0 [] rfl (World.ownsRow_made _ #[] 0 (Nat.le_refl _) (Nat.zero_le _) rfl) (ae.add (k * 2)) (L.length - k) (ce - k) (flat2 (L.drop k)) rfl ?qc1 ?qc2 (one_flat2 _) ?qc4 ?qc5 ?qc6 ?_)
              case qc1 => rw [flat2_len, List.length_drop]
              case qc2 => exact drop_cells M6.out.row
              case qc4 => unfold maxLen; omega
              case qc5 => omega
              case qc6 => simp
              intro v7 w7 hown7 g7 hnil7
              have hb7 : Below w6.heap.size w6 w7 := ((pw_below_drewN (Below.refl w6.heap.size w6) _).alloc (by simp) _).grown g7 (by simp) (fun k e => by simp [Value.ownBlock] at e; omega)
              have M7 := Lib.hid (M6.out.below hb7)
              have E7 : Hid (w7.cell? (ad.add (i * 2)) = some (.string pr.1) ∧ w7.cell? ⟨(ad.add (i * 2)).block, (ad.add (i * 2)).off + 1, none⟩ = some (.string pr.2)) := ⟨cell_below hb7 he0, cell_below hb7 he1⟩
              obtain ⟨ar, cr, hv7⟩ : ∃ ar cr, v7 = .slice (some ar) (L.length - k) cr := by
                have h7 := hown7
                rcases h7.2 with ⟨e, _⟩ | ⟨g, cap, cur, e, _⟩
                · exact (hnil7 e).elim
                · exact ⟨_, _, e⟩
              subst hv7
              have R7 : Hid (OwnE w7 w6.heap.size (some ar) cr (L.drop k)) := by
                unfold OwnE
                rw [List.length_drop]
                have h7 := hown7
                exact h7
              have S67 := Lib.hid hb7.size
              clear hown7 g7 hnil7 hb7 hce hce2 he0 he1 hd0 hd1
              go_wp2_with fail
              have hc6 : Hid (w7.drew.cell? ⟨b6, 1, none⟩ = some (.slice (some ae) L.length ce)) := M7.out.edges
              have hp0 : Hid (w7.drew.cell? (ad.add (i * 2)) = some (.string pr.1)) := E7.out.1
              have hp1 : Hid (w7.drew.cell? ⟨(ad.add (i * 2)).block, (ad.add (i * 2)).off + 1, none⟩ = some (.string pr.2)) := E7.out.2
              have hcut : Hid ((w7.drew.alloc (.cells #[.string pr.1, .string pr.2] 45)).ownsRow w.heap.size 45 2 (.slice (some ae) k ce) k (flat2 (L.take k))) := World.ownsRow.alloc (OwnE.cut (w := w7.drew) M7.out.row hk) _
              have hkce : k ≤ ce := by
                obtain ⟨_, _, _, hro⟩ := OwnE.block M6.out.row
                omega
              have hkI2 : (k : Int) ≤ (ce : Int) := by omega
              have hbl7 : Hid (w.heap.size ≤ w7.heap.size) := M7.out.bl.size
              have hae : Hid (w.heap.size ≤ ae.block ∧ ae.block < w6.heap.size) := OwnE.lt M6.out.row (k := ae.block) rfl
              have hadl : Hid ((ad.add (i * 2)).block < w.heap.size) := by
                obtain ⟨ad', _, _, hA', hca, _⟩ := at_pair X.out.1 i hlt
                injection hA' with hA'
                subst hA'
                exact World.block_lt_of_cell? _ _ hca
              have hb6e : Hid (b6 ≠ ae.block) := by
                intro e
                obtain ⟨cur, _, hg, _⟩ := OwnE.block M7.out.row
                have h6 := M7.out.cell
                rw [e, hg] at h6
                injection h6 with h6
                injection h6 with _ h6
                exact absurd h6 (by decide)
              refine start_ (n := 14) (S := fun w' => w'.cell? ⟨b6, 1, none⟩ = some (.slice (some ae) L.length ce) ∧ w'.cell? (ad.add (i * 2)) = some (.string pr.1) ∧ w'.cell? ⟨(ad.add (i * 2)).block, (ad.add (i * 2)).off + 1, none⟩ = some (.string pr.2)) (ds := [13]) #[false, false, false, false, false, false, false, false, false, false, false, false, false, false] (by kernel_rfl) rfl rfl ⟨hc6.out, hp0.out, hp1.out⟩ (fun hHeld => ?_); refine with_tabW of12_tab of12_bits (fun HT_ HW_ => ?_)
              refine pure_ (i := 0) (N := some 105) (v := ?_) (a' := ?_) #[true, false, false, false, false, false, false, false, false, false, false, false, false, false] rfl rfl (any_of HT_.out (by kernel_rfl)) (fun _ _ _ h => h) (Or.inl ⟨by rfl, ?_⟩) ?_ ?_
              rotate_left
              · intro w'
                go_simp
                with_reducible rfl
              rotate_left
              · simp only [Act.put, List.setIfInBounds_toArray, List.set_cons_zero, List.set_cons_succ, i64_w, i32_w]
                rfl
              refine pure_ (i := 2) (N := some 107) (v := ?_) (a' := ?_) #[true, false, true, false, false, false, false, false, false, false, false, false, false, false] rfl rfl (any_of HT_.out (by kernel_rfl)) (fun _ _ _ h => h) (Or.inl ⟨by rfl, ?_⟩) ?_ ?_
              rotate_left
              · intro w'
                go_simp
                with_reducible rfl
              rotate_left
              · simp only [Act.put, List.setIfInBounds_toArray, List.set_cons_zero, List.set_cons_succ, i64_w, i32_w]
                rfl
              refine pure_ (i := 4) (N := some 109) (v := ?_) (a' := ?_) #[true, false, true, false, true, false, false, false, false, false, false, false, false, false] rfl rfl (any_of HT_.out (by kernel_rfl)) (fun _ _ _ h => h) (Or.inl ⟨by rfl, ?_⟩) ?_ ?_
              rotate_left
              · intro w'
                go_simp
                with_reducible rfl
              rotate_left
              · simp only [Act.put, List.setIfInBounds_toArray, List.set_cons_zero, List.set_cons_succ, i64_w, i32_w]
                rfl
              refine pure_ (i := 5) (N := some 110) (v := ?_) (a' := ?_) #[true, false, true, false, true, true, false, false, false, false, false, false, false, false] rfl rfl (any_of HT_.out (by kernel_rfl)) (fun _ _ _ h => h) (Or.inl ⟨by rfl, ?_⟩) ?_ ?_
              rotate_left
              · intro w'
                go_simp
                with_reducible rfl
              rotate_left
              · simp only [Act.put, List.setIfInBounds_toArray, List.set_cons_zero, List.set_cons_succ, i64_w, i32_w]
                rfl
              refine pure_ (i := 6) (N := some 111) (v := ?_) (a' := ?_) #[true, false, true, false, true, true, true, false, false, false, false, false, false, false] rfl rfl (any_of HT_.out (by kernel_rfl)) (fun _ _ _ h => h) (Or.inl ⟨by rfl, ?_⟩) ?_ ?_
              rotate_left
              · intro w'
                go_simp
                with_reducible rfl
              rotate_left
              · simp only [Act.put, List.setIfInBounds_toArray, List.set_cons_zero, List.set_cons_succ, i64_w, i32_w]
                rfl
              refine pure_ (i := 10) (N := some 115) (v := ?_) (a' := ?_) #[true, false, true, false, true, true, true, false, false, false, true, false, false, false] rfl rfl (any_of HT_.out (by kernel_rfl)) (fun _ _ _ h => h) (Or.inl ⟨by rfl, ?_⟩) ?_ ?_
              rotate_left
              · intro w'
                go_simp
                with_reducible rfl
              rotate_left
              · simp only [Act.put, List.setIfInBounds_toArray, List.set_cons_zero, List.set_cons_succ, i64_w, i32_w]
                rfl
              refine take_ (i := 1) (N := some 106) (v := ?_) (a' := ?_) #[true, true, true, false, true, true, true, false, false, false, true, false, false, false] rfl rfl (take_ofW HT_.out HW_.out (by kernel_rfl)) (fun _ _ _ h => h) (Or.inl ⟨by rfl, ?_⟩) hHeld ?_ ?_
              rotate_left
              · rintro w' ⟨s0, s1, s2⟩
                go_simp
                with_reducible rfl
              rotate_left
              · simp only [Act.put, List.setIfInBounds_toArray, List.set_cons_zero, List.set_cons_succ, i64_w, i32_w]
                rfl
              refine pure_ (i := 3) (N := some 108) (v := ?_) (a' := ?_) #[true, true, true, true, true, true, true, false, false, false, true, false, false, false] rfl rfl (any_of HT_.out (by kernel_rfl)) (fun _ _ _ h => h) (Or.inl ⟨by rfl, ?_⟩) ?_ ?_
              rotate_left
              · intro w'
                go_simp
                with_reducible rfl
              rotate_left
              · simp only [Act.put, List.setIfInBounds_toArray, List.set_cons_zero, List.set_cons_succ, i64_w, i32_w]
                rfl
              refine take_ (i := 7) (N := some 112) (v := ?_) (a' := ?_) #[true, true, true, true, true, true, true, true, false, false, true, false, false, false] rfl rfl (take_ofW HT_.out HW_.out (by kernel_rfl)) (fun _ _ _ h => h) (Or.inl ⟨by rfl, ?_⟩) hHeld ?_ ?_
              rotate_left
              · rintro w' ⟨s0, s1, s2⟩
                go_simp
                with_reducible rfl
              rotate_left
              · simp only [Act.put, List.setIfInBounds_toArray, List.set_cons_zero, List.set_cons_succ, i64_w, i32_w]
                rfl
              refine one_ (i := 8) (N := some 113) #[true, true, true, true, true, true, true, true, true, false, true, false, false, false] rfl rfl (one_of HT_.out (by kernel_rfl)) (by decide) (fun K hK => ?_)
              refine value_ (w1 := ?_) (v := ?_) (by rfl) rfl ?_ ?_
              rotate_left 2
              · go_simp
                constructor
                · rfl
                · rfl
              refine hK.out _ _ ⟨alloc_cell hc6.out, alloc_cell hp0.out, alloc_cell hp1.out⟩ (fun hHeld => ?_)
              clear hK K
              refine norm_ (a' := ?_) ?_ ?_
              rotate_left
              · show Act.put _ (some 113) _ = _
                simp only [Act.put, List.setIfInBounds_toArray, List.set_cons_zero, List.set_cons_succ, i64_w, i32_w]
                rfl
              refine one_ (i := 9) (N := some 114) #[true, true, true, true, true, true, true, true, true, true, true, false, false, false] rfl rfl (one_of HT_.out (by kernel_rfl)) (by decide) (fun K hK => ?_)
              refine catE_step (by rfl) (.tmp 108) (.tmp 113) rfl rfl w.heap.size (.slice (some ae) k ce) k (L.take k) hcut.out rfl ⟨w7.heap.size, 0, none⟩ 1 1 [pr] rfl rfl (new_cells (W := w7.drew)) (by omega) (Nat.le_trans hbl7.out (by simp)) ?_
              intro v9 w9 h9 g9
              obtain ⟨g9b, c9, rfl⟩ := Go.ownsRow_succ h9
              have Z9 : Hid (w9.cell? ⟨b6, 1, none⟩ = some (.slice (some ae) L.length ce) ∧ w9.cell? (ad.add (i * 2)) = some (.string pr.1) ∧ w9.cell? ⟨(ad.add (i * 2)).block, (ad.add (i * 2)).off + 1, none⟩ = some (.string pr.2)) := ⟨cell_grown g9 (alloc_cell hc6.out) (fun e => hb6e.out (by injection e)), cell_grown g9 (alloc_cell hp0.out) (fun e => by injection e with e; have := hae.out.1; have := hadl.out; omega), cell_grown g9 (alloc_cell hp1.out) (fun e => by injection e with e; have h := hae.out.1; have h2 := hadl.out; simp only at e; omega)⟩
              have R9 : Hid (∀ j u, (flat2 (L.drop k))[j]? = some u → w9.cell? (ar.add j) = some u) := fun j u hj => cell_grown g9 (alloc_cell (w := w7.drew) (R7.out.cells j u hj)) (fun e => by
                injection e with e
                have h1 := (OwnE.lt R7.out (k := ar.block) rfl).1
                have h2 := hae.out.2
                have h3 : (ar.add j).block = ar.block := by
                  obtain ⟨_, e4, _⟩ := OwnE.block R7.out
                  rw [e4, Addr.add_lit]
                omega)
              have O9 := Lib.hid (And.intro h9 g9)
              have T9 : Hid (OfT w w9 w.heap.size b6 (names ++ flatN (l.take (i + 1))) A6 c6 (.slice (some ae) L.length ce)) := by
                have h1 : OfT w w7.drew w.heap.size b6 (names ++ flatN (l.take (i + 1))) A6 c6 (.slice (some ae) L.length ce) := (M7.out.drewN 1).toT
                obtain ⟨cur, _, hg, _⟩ := OwnE.block M7.out.row
                exact (h1.alloc (.cells #[.string pr.1, .string pr.2] 45)).grown g9 ⟨cur, (alloc_same w7.drew _ (Array.getElem?_eq_some_iff.1 hg).1).trans hg⟩ hae.out.1
              clear h9 g9
              refine hK.out _ _ Z9.out (fun hHeld => ?_)
              clear hK K
              refine norm_ (a' := ?_) ?_ ?_
              rotate_left
              · show Act.put _ (some 114) _ = _
                simp only [Act.put, List.setIfInBounds_toArray, List.set_cons_zero, List.set_cons_succ, i64_w, i32_w]
                rfl
              refine one_ (i := 11) (N := some 116) #[true, true, true, true, true, true, true, true, true, true, true, true, false, false] rfl rfl (one_of HT_.out (by kernel_rfl)) (by decide) (fun K hK => ?_)
              refine catE_step (by rfl) (.tmp 114) (.tmp 115) rfl rfl w.heap.size (.slice (some ⟨g9b, 0, none⟩) (k + 1) c9) (k + 1) (L.take k ++ [pr]) O9.out.1 rfl ar (L.length - k) cr (L.drop k) rfl (by rw [List.length_drop]) R9.out (by omega) (Nat.le_trans (Nat.le_trans hbl7.out (by simp)) O9.out.2.size) ?_
              intro v11 w11 h11 g11
              rw [show k + 1 + (L.length - k) = L.length + 1 from by omega] at h11
              obtain ⟨g11b, c11, rfl⟩ := Go.ownsRow_succ h11
              have T11 : Hid (OfT w w11 w.heap.size b6 (names ++ flatN (l.take (i + 1))) A6 c6 (.slice (some ae) L.length ce)) := by
                rcases O9.out.1.2 with ⟨e, _⟩ | ⟨g, cap, cur, e, hge, hg, _⟩
                · cases e
                · injection e with e
                  injection e with e
                  injection e with e
                  subst e
                  exact T9.out.grown g11 ⟨cur, hg⟩ hge
              have Z11 : Hid (w11.cell? ⟨b6, 1, none⟩ = some (.slice (some ae) L.length ce) ∧ w11.cell? (ad.add (i * 2)) = some (.string pr.1) ∧ w11.cell? ⟨(ad.add (i * 2)).block, (ad.add (i * 2)).off + 1, none⟩ = some (.string pr.2)) := by
                have hge : w.heap.size ≤ g9b := (World.ownsRow.lt O9.out.1 g9b rfl).1
                have had := hadl.out
                refine ⟨by simp [World.cell?, T11.out.cell], cell_grown g11 Z9.out.2.1 (fun e => ?_), cell_grown g11 Z9.out.2.2 (fun e => ?_)⟩
                · injection e with e
                  simp only at e
                  omega
                · injection e with e
                  simp only at e
                  omega
              have O11 := Lib.hid (And.intro h11 g11)
              clear h11 g11
              refine hK.out _ _ Z11.out (fun hHeld => ?_)
              clear hK K
              refine norm_ (a' := ?_) ?_ ?_
              rotate_left
              · show Act.put _ (some 116) _ = _
                simp only [Act.put, List.setIfInBounds_toArray, List.set_cons_zero, List.set_cons_succ, i64_w, i32_w]
                rfl
              refine pure_ (i := 12) (N := some 117) (v := ?_) (a' := ?_) #[true, true, true, true, true, true, true, true, true, true, true, true, true, false] rfl rfl (any_of HT_.out (by kernel_rfl)) (fun _ _ _ h => h) (Or.inl ⟨by rfl, ?_⟩) ?_ ?_
              rotate_left
              · intro w'
                go_simp
                with_reducible rfl
              rotate_left
              · simp only [Act.put, List.setIfInBounds_toArray, List.set_cons_zero, List.set_cons_succ, i64_w, i32_w]
                rfl
              have hfz : w11.frozen? ⟨b6, 1, none⟩ = false := by simp [World.frozen?, T11.out.cell]
              have hcl := Z11.out.1
              refine last_ (i := 13) (N := none) #[true, true, true, true, true, true, true, true, true, true, true, true, true, true] rfl rfl (one_of HT_.out (by kernel_rfl)) (by decide) (fun K hK => ?_)
              refine skip_ (w1 := ?_) (by rfl) rfl ?_ ?_
              rotate_left
              · go_simp
                rfl
              refine hK.out _ _ ?_
              clear hK K
              refine done_ (done_of HT_.out (by kernel_rfl)) ?_
              go_wp2_with fail
              go_roundg (l.length - i)
              case measure => omega
              case rel =>
                obtain ⟨hri, hmi⟩ := riseP_insert M6.out.rise hk HK.out (fun z hz => by
                  rw [HQ.out] at hz
                  injection hz with hz
                  subst hz
                  exact (plt_tri q2 pr).elim (fun h => absurd h HF.out) (fun h => h.elim (fun h => absurd h HE.out) id))
                have hLn : L.length + 1 = (L.take k ++ [pr] ++ L.drop k).length := by
                  simp only [List.length_append, List.length_take, List.length_drop, List.length_singleton]
                  omega
                refine ⟨i + 1, n5 + 2, A6, c6, some ⟨g11b, 0, none⟩, c11, L.take k ++ [pr] ++ L.drop k, rfl, by go_num, by omega, by omega, HN.out, ?_⟩
                exact T11.out.store hLn O11.out.1 hri (fun p => by rw [hmi p, HTK.out, List.mem_append, List.mem_singleton, M6.out.mem p]) hb46.out
        · have hkd : decide ((k : Int) < (L.length : Int)) = false := decide_eq_false (by omega)
          have hkI : ¬ ((k : Int) < (L.length : Int)) := by omega
          cases Ae with
          | none =>
            have hn0 : ce = 0 ∧ L = [] := by
              rcases M6.out.row.2 with ⟨e, e2⟩ | ⟨g, cap, cur, e, _⟩
              · injection e with _ _ e3
                exact ⟨e3, List.eq_nil_of_length_eq_zero e2⟩
              · cases e
            obtain ⟨rfl, rfl⟩ := hn0
            obtain rfl : k = 0 := by simpa using hk
            go_wp2_with fail
            go_quiet (fail)
            go_wp2_with fail
            go_quiet (fail)
            go_wp2_with (at_builtin; refine wpList_noneE (w6 := w6) rfl (.tmp 99) (.tmp 103) rfl w6.heap.size rfl rfl ((pw_below_drewN (Below.refl w6.heap.size w6) _).alloc (by simp) _) (World.ownsRow_made _ #[] 0 (Nat.le_refl _) (Nat.zero_le _) rfl) ?_)
            intro ar w7 hb7 R7_
            have R7 := Lib.hid R7_
            have M7 := Lib.hid (M6.out.below hb7)
            have E7 : Hid (w7.cell? (ad.add (i * 2)) = some (.string pr.1) ∧ w7.cell? ⟨(ad.add (i * 2)).block, (ad.add (i * 2)).off + 1, none⟩ = some (.string pr.2)) := ⟨cell_below hb7 he0, cell_below hb7 he1⟩
            clear hb7 R7_ hce hce2 he0 he1
            go_wp2_with fail
            have hc6 : Hid (w7.drew.cell? ⟨b6, 1, none⟩ = some (.slice none 0 0)) := M7.out.edges
            have hp0 : Hid (w7.drew.cell? (ad.add (i * 2)) = some (.string pr.1)) := E7.out.1
            have hp1 : Hid (w7.drew.cell? ⟨(ad.add (i * 2)).block, (ad.add (i * 2)).off + 1, none⟩ = some (.string pr.2)) := E7.out.2
            have hcut : Hid ((w7.drew.alloc (.cells #[.string pr.1, .string pr.2] 45)).ownsRow w.heap.size 45 2 (.slice none 0 0) 0 (flat2 [])) := World.ownsRow_nil _ _ _ _
            have hbl7 : Hid (w.heap.size ≤ w7.heap.size) := M7.out.bl.size
            have hadl : Hid ((ad.add (i * 2)).block < w.heap.size) := by
              obtain ⟨ad', _, _, hA', hca, _⟩ := at_pair X.out.1 i hlt
              injection hA' with hA'
              subst hA'
              exact World.block_lt_of_cell? _ _ hca
            refine start_ (n := 14) (S := fun w' => w'.cell? ⟨b6, 1, none⟩ = some (.slice none 0 0) ∧ w'.cell? (ad.add (i * 2)) = some (.string pr.1) ∧ w'.cell? ⟨(ad.add (i * 2)).block, (ad.add (i * 2)).off + 1, none⟩ = some (.string pr.2)) (ds := [13]) #[false, false, false, false, false, false, false, false, false, false, false, false, false, false] (by kernel_rfl) rfl rfl ⟨hc6.out, hp0.out, hp1.out⟩ (fun hHeld => ?_); refine with_tabW of12_tab of12_bits (fun HT_ HW_ => ?_)
            refine pure_ (i := 0) (N := some 105) (v := ?_) (a' := ?_) #[true, false, false, false, false, false, false, false, false, false, false, false, false, false] rfl rfl (any_of HT_.out (by kernel_rfl)) (fun _ _ _ h => h) (Or.inl ⟨by rfl, ?_⟩) ?_ ?_
            rotate_left
            · intro w'
              go_simp
              with_reducible rfl
            rotate_left
            · simp only [Act.put, List.setIfInBounds_toArray, List.set_cons_zero, List.set_cons_succ, i64_w, i32_w]
              rfl
            refine pure_ (i := 2) (N := some 107) (v := ?_) (a' := ?_) #[true, false, true, false, false, false, false, false, false, false, false, false, false, false] rfl rfl (any_of HT_.out (by kernel_rfl)) (fun _ _ _ h => h) (Or.inl ⟨by rfl, ?_⟩) ?_ ?_
            rotate_left
            · intro w'
              go_simp
              with_reducible rfl
            rotate_left
            · simp only [Act.put, List.setIfInBounds_toArray, List.set_cons_zero, List.set_cons_succ, i64_w, i32_w]
              rfl
            refine pure_ (i := 4) (N := some 109) (v := ?_) (a' := ?_) #[true, false, true, false, true, false, false, false, false, false, false, false, false, false] rfl rfl (any_of HT_.out (by kernel_rfl)) (fun _ _ _ h => h) (Or.inl ⟨by rfl, ?_⟩) ?_ ?_
            rotate_left
            · intro w'
              go_simp
              with_reducible rfl
            rotate_left
            · simp only [Act.put, List.setIfInBounds_toArray, List.set_cons_zero, List.set_cons_succ, i64_w, i32_w]
              rfl
            refine pure_ (i := 5) (N := some 110) (v := ?_) (a' := ?_) #[true, false, true, false, true, true, false, false, false, false, false, false, false, false] rfl rfl (any_of HT_.out (by kernel_rfl)) (fun _ _ _ h => h) (Or.inl ⟨by rfl, ?_⟩) ?_ ?_
            rotate_left
            · intro w'
              go_simp
              with_reducible rfl
            rotate_left
            · simp only [Act.put, List.setIfInBounds_toArray, List.set_cons_zero, List.set_cons_succ, i64_w, i32_w]
              rfl
            refine pure_ (i := 6) (N := some 111) (v := ?_) (a' := ?_) #[true, false, true, false, true, true, true, false, false, false, false, false, false, false] rfl rfl (any_of HT_.out (by kernel_rfl)) (fun _ _ _ h => h) (Or.inl ⟨by rfl, ?_⟩) ?_ ?_
            rotate_left
            · intro w'
              go_simp
              with_reducible rfl
            rotate_left
            · simp only [Act.put, List.setIfInBounds_toArray, List.set_cons_zero, List.set_cons_succ, i64_w, i32_w]
              rfl
            refine pure_ (i := 10) (N := some 115) (v := ?_) (a' := ?_) #[true, false, true, false, true, true, true, false, false, false, true, false, false, false] rfl rfl (any_of HT_.out (by kernel_rfl)) (fun _ _ _ h => h) (Or.inl ⟨by rfl, ?_⟩) ?_ ?_
            rotate_left
            · intro w'
              go_simp
              with_reducible rfl
            rotate_left
            · simp only [Act.put, List.setIfInBounds_toArray, List.set_cons_zero, List.set_cons_succ, i64_w, i32_w]
              rfl
            refine take_ (i := 1) (N := some 106) (v := ?_) (a' := ?_) #[true, true, true, false, true, true, true, false, false, false, true, false, false, false] rfl rfl (take_ofW HT_.out HW_.out (by kernel_rfl)) (fun _ _ _ h => h) (Or.inl ⟨by rfl, ?_⟩) hHeld ?_ ?_
            rotate_left
            · rintro w' ⟨s0, s1, s2⟩
              go_simp
              with_reducible rfl
            rotate_left
            · simp only [Act.put, List.setIfInBounds_toArray, List.set_cons_zero, List.set_cons_succ, i64_w, i32_w]
              rfl
            refine pure_ (i := 3) (N := some 108) (v := ?_) (a' := ?_) #[true, true, true, true, true, true, true, false, false, false, true, false, false, false] rfl rfl (any_of HT_.out (by kernel_rfl)) (fun _ _ _ h => h) (Or.inl ⟨by rfl, ?_⟩) ?_ ?_
            rotate_left
            · intro w'
              go_simp
              with_reducible rfl
            rotate_left
            · simp only [Act.put, List.setIfInBounds_toArray, List.set_cons_zero, List.set_cons_succ, i64_w, i32_w]
              rfl
            refine take_ (i := 7) (N := some 112) (v := ?_) (a' := ?_) #[true, true, true, true, true, true, true, true, false, false, true, false, false, false] rfl rfl (take_ofW HT_.out HW_.out (by kernel_rfl)) (fun _ _ _ h => h) (Or.inl ⟨by rfl, ?_⟩) hHeld ?_ ?_
            rotate_left
            · rintro w' ⟨s0, s1, s2⟩
              go_simp
              with_reducible rfl
            rotate_left
            · simp only [Act.put, List.setIfInBounds_toArray, List.set_cons_zero, List.set_cons_succ, i64_w, i32_w]
              rfl
            refine one_ (i := 8) (N := some 113) #[true, true, true, true, true, true, true, true, true, false, true, false, false, false] rfl rfl (one_of HT_.out (by kernel_rfl)) (by decide) (fun K hK => ?_)
            refine value_ (w1 := ?_) (v := ?_) (by rfl) rfl ?_ ?_
            rotate_left 2
            · go_simp
              constructor
              · rfl
              · rfl
            refine hK.out _ _ ⟨alloc_cell hc6.out, alloc_cell hp0.out, alloc_cell hp1.out⟩ (fun hHeld => ?_)
            clear hK K
            refine norm_ (a' := ?_) ?_ ?_
            rotate_left
            · show Act.put _ (some 113) _ = _
              simp only [Act.put, List.setIfInBounds_toArray, List.set_cons_zero, List.set_cons_succ, i64_w, i32_w]
              rfl
            refine one_ (i := 9) (N := some 114) #[true, true, true, true, true, true, true, true, true, true, true, false, false, false] rfl rfl (one_of HT_.out (by kernel_rfl)) (by decide) (fun K hK => ?_)
            refine catE_step (by rfl) (.tmp 108) (.tmp 113) rfl rfl w.heap.size (.slice none 0 0) 0 [] hcut.out rfl ⟨w7.heap.size, 0, none⟩ 1 1 [pr] rfl rfl (new_cells (W := w7.drew)) (by omega) (Nat.le_trans hbl7.out (by simp)) ?_
            intro v9 w9 h9 g9
            obtain ⟨g9b, c9, rfl⟩ := Go.ownsRow_succ h9
            have Z9 : Hid (w9.cell? ⟨b6, 1, none⟩ = some (.slice none 0 0) ∧ w9.cell? (ad.add (i * 2)) = some (.string pr.1) ∧ w9.cell? ⟨(ad.add (i * 2)).block, (ad.add (i * 2)).off + 1, none⟩ = some (.string pr.2)) := ⟨cell_grown g9 (alloc_cell hc6.out) (by simp [Value.ownBlock]), cell_grown g9 (alloc_cell hp0.out) (by simp [Value.ownBlock]), cell_grown g9 (alloc_cell hp1.out) (by simp [Value.ownBlock])⟩
            have R9 : Hid (∀ j u, (flat2 ([] : List Pr))[j]? = some u → w9.cell? (ar.add j) = some u) := fun j u hj => by simp [flat2] at hj
            have O9 := Lib.hid (And.intro h9 g9)
            have T9 : Hid (OfT w w9 w.heap.size b6 (names ++ flatN (l.take (i + 1))) A6 c6 (.slice none 0 0)) := by
              have h1 : OfT w w7.drew w.heap.size b6 (names ++ flatN (l.take (i + 1))) A6 c6 (.slice none 0 0) := (M7.out.drewN 1).toT
              exact (h1.alloc (.cells #[.string pr.1, .string pr.2] 45)).grown0 g9
            clear h9 g9
            refine hK.out _ _ Z9.out (fun hHeld => ?_)
            clear hK K
            refine norm_ (a' := ?_) ?_ ?_
            rotate_left
            · show Act.put _ (some 114) _ = _
              simp only [Act.put, List.setIfInBounds_toArray, List.set_cons_zero, List.set_cons_succ, i64_w, i32_w]
              rfl
            refine one_ (i := 11) (N := some 116) #[true, true, true, true, true, true, true, true, true, true, true, true, false, false] rfl rfl (one_of HT_.out (by kernel_rfl)) (by decide) (fun K hK => ?_)
            refine catE_step (by rfl) (.tmp 114) (.tmp 115) rfl rfl w.heap.size (.slice (some ⟨g9b, 0, none⟩) (0 + 1) c9) (0 + 1) [pr] O9.out.1 rfl ar 0 0 [] rfl rfl R9.out (by omega) (Nat.le_trans (Nat.le_trans hbl7.out (by simp)) O9.out.2.size) ?_
            intro v11 w11 h11_ g11
            have h11 : w11.ownsRow w.heap.size 45 2 v11 (0 + 1) (flat2 [pr]) := h11_
            clear h11_
            obtain ⟨g11b, c11, rfl⟩ := Go.ownsRow_succ h11
            have T11 : Hid (OfT w w11 w.heap.size b6 (names ++ flatN (l.take (i + 1))) A6 c6 (.slice none 0 0)) := by
              rcases O9.out.1.2 with ⟨e, _⟩ | ⟨g, cap, cur, e, hge, hg, _⟩
              · cases e
              · injection e with e
                injection e with e
                injection e with e
                subst e
                exact T9.out.grown g11 ⟨cur, hg⟩ hge
            have Z11 : Hid (w11.cell? ⟨b6, 1, none⟩ = some (.slice none 0 0) ∧ w11.cell? (ad.add (i * 2)) = some (.string pr.1) ∧ w11.cell? ⟨(ad.add (i * 2)).block, (ad.add (i * 2)).off + 1, none⟩ = some (.string pr.2)) := by
              have hge : w.heap.size ≤ g9b := (World.ownsRow.lt O9.out.1 g9b rfl).1
              have had := hadl.out
              refine ⟨by simp [World.cell?, T11.out.cell], cell_grown g11 Z9.out.2.1 (fun e => ?_), cell_grown g11 Z9.out.2.2 (fun e => ?_)⟩
              · injection e with e
                simp only at e
                omega
              · injection e with e
                simp only at e
                omega
            have O11 := Lib.hid (And.intro h11 g11)
            clear h11 g11
            refine hK.out _ _ Z11.out (fun hHeld => ?_)
            clear hK K
            refine norm_ (a' := ?_) ?_ ?_
            rotate_left
            · show Act.put _ (some 116) _ = _
              simp only [Act.put, List.setIfInBounds_toArray, List.set_cons_zero, List.set_cons_succ, i64_w, i32_w]
              rfl
            refine pure_ (i := 12) (N := some 117) (v := ?_) (a' := ?_) #[true, true, true, true, true, true, true, true, true, true, true, true, true, false] rfl rfl (any_of HT_.out (by kernel_rfl)) (fun _ _ _ h => h) (Or.inl ⟨by rfl, ?_⟩) ?_ ?_
            rotate_left
            · intro w'
              go_simp
              with_reducible rfl
            rotate_left
            · simp only [Act.put, List.setIfInBounds_toArray, List.set_cons_zero, List.set_cons_succ, i64_w, i32_w]
              rfl
            have hfz : w11.frozen? ⟨b6, 1, none⟩ = false := by simp [World.frozen?, T11.out.cell]
            have hcl := Z11.out.1
            refine last_ (i := 13) (N := none) #[true, true, true, true, true, true, true, true, true, true, true, true, true, true] rfl rfl (one_of HT_.out (by kernel_rfl)) (by decide) (fun K hK => ?_)
            refine skip_ (w1 := ?_) (by rfl) rfl ?_ ?_
            rotate_left
            · go_simp
              rfl
            refine hK.out _ _ ?_
            clear hK K
            refine done_ (done_of HT_.out (by kernel_rfl)) ?_
            go_wp2_with fail
            go_roundg (l.length - i)
            case measure => omega
            case rel =>
              refine ⟨i + 1, n5 + 2, A6, c6, some ⟨g11b, 0, none⟩, c11, [pr], rfl, by go_num, by omega, by omega, HN.out, ?_⟩
              exact T11.out.store (L := [pr]) rfl O11.out.1 (List.pairwise_singleton _ _) (fun p => by rw [HTK.out, List.mem_append, List.mem_singleton, ← M6.out.mem p]; simp) hb46.out
          | some ae =>
            by_cases hcek : ce = k
            · obtain rfl := hcek.symm
              go_wp2_with fail
              go_quiet (fail)
              go_wp2_with fail
              go_quiet (fail)
              obtain ⟨i0, hi45, hz0, hz1, hz2⟩ := info_parts infoE
              go_wp2_with (at_builtin; refine wpList_append_own _ rfl (.tmp 99) (.tmp 103) 22 rfl w6.heap.size 45 i0 (.agg #[(.string ⟨#[]⟩), (.string ⟨#[]⟩)]) 2 32 Try.underlying22 hi45 hz0 hz1 hz2 rfl (by decide) _ 0 [] rfl (World.ownsRow_made _ #[] 0 (Nat.le_refl _) (Nat.zero_le _) rfl) ae (L.length - k) 0 (flat2 (L.drop k)) rfl ?qc1 ?qc2 (one_flat2 _) ?qc4 ?qc5 ?qc6 ?_)
              case qc1 => rw [flat2_len, List.length_drop]
              case qc2 =>
                intro j u hj
                rw [List.drop_eq_nil_of_le (by omega)] at hj
                cases hj
              case qc4 => unfold maxLen; omega
              case qc5 => omega
              case qc6 => simp
              intro v7 w7 hown7 g7 hnil7
              have hb7 : Below w6.heap.size w6 w7 := ((pw_below_drewN (Below.refl w6.heap.size w6) _).alloc (by simp) _).grown g7 (by simp) (fun k e => by simp [Value.ownBlock] at e; omega)
              have M7 := Lib.hid (M6.out.below hb7)
              have E7 : Hid (w7.cell? (ad.add (i * 2)) = some (.string pr.1) ∧ w7.cell? ⟨(ad.add (i * 2)).block, (ad.add (i * 2)).off + 1, none⟩ = some (.string pr.2)) := ⟨cell_below hb7 he0, cell_below hb7 he1⟩
              obtain ⟨ar, cr, hv7⟩ : ∃ ar cr, v7 = .slice (some ar) (L.length - k) cr := by
                have h7 := hown7
                rcases h7.2 with ⟨e, _⟩ | ⟨g, cap, cur, e, _⟩
                · exact (hnil7 e).elim
                · exact ⟨_, _, e⟩
              subst hv7
              have R7 : Hid (OwnE w7 w6.heap.size (some ar) cr (L.drop k)) := by
                unfold OwnE
                rw [List.length_drop]
                have h7 := hown7
                exact h7
              have S67 := Lib.hid hb7.size
              clear hown7 g7 hnil7 hb7 hce hce2 he0 he1
              go_wp2_with fail
              have hc6 : Hid (w7.drew.cell? ⟨b6, 1, none⟩ = some (.slice (some ae) L.length k)) := M7.out.edges
              have hp0 : Hid (w7.drew.cell? (ad.add (i * 2)) = some (.string pr.1)) := E7.out.1
              have hp1 : Hid (w7.drew.cell? ⟨(ad.add (i * 2)).block, (ad.add (i * 2)).off + 1, none⟩ = some (.string pr.2)) := E7.out.2
              have hcut : Hid ((w7.drew.alloc (.cells #[.string pr.1, .string pr.2] 45)).ownsRow w.heap.size 45 2 (.slice (some ae) k k) k (flat2 (L.take k))) := World.ownsRow.alloc (OwnE.cut (w := w7.drew) M7.out.row hk) _
              have hbl7 : Hid (w.heap.size ≤ w7.heap.size) := M7.out.bl.size
              have hae : Hid (w.heap.size ≤ ae.block ∧ ae.block < w6.heap.size) := OwnE.lt M6.out.row (k := ae.block) rfl
              have hadl : Hid ((ad.add (i * 2)).block < w.heap.size) := by
                obtain ⟨ad', _, _, hA', hca, _⟩ := at_pair X.out.1 i hlt
                injection hA' with hA'
                subst hA'
                exact World.block_lt_of_cell? _ _ hca
              have hb6e : Hid (b6 ≠ ae.block) := by
                intro e
                obtain ⟨cur, _, hg, _⟩ := OwnE.block M7.out.row
                have h6 := M7.out.cell
                rw [e, hg] at h6
                injection h6 with h6
                injection h6 with _ h6
                exact absurd h6 (by decide)
              refine start_ (n := 14) (S := fun w' => w'.cell? ⟨b6, 1, none⟩ = some (.slice (some ae) L.length k) ∧ w'.cell? (ad.add (i * 2)) = some (.string pr.1) ∧ w'.cell? ⟨(ad.add (i * 2)).block, (ad.add (i * 2)).off + 1, none⟩ = some (.string pr.2)) (ds := [13]) #[false, false, false, false, false, false, false, false, false, false, false, false, false, false] (by kernel_rfl) rfl rfl ⟨hc6.out, hp0.out, hp1.out⟩ (fun hHeld => ?_); refine with_tabW of12_tab of12_bits (fun HT_ HW_ => ?_)
              refine pure_ (i := 0) (N := some 105) (v := ?_) (a' := ?_) #[true, false, false, false, false, false, false, false, false, false, false, false, false, false] rfl rfl (any_of HT_.out (by kernel_rfl)) (fun _ _ _ h => h) (Or.inl ⟨by rfl, ?_⟩) ?_ ?_
              rotate_left
              · intro w'
                go_simp
                with_reducible rfl
              rotate_left
              · simp only [Act.put, List.setIfInBounds_toArray, List.set_cons_zero, List.set_cons_succ, i64_w, i32_w]
                rfl
              refine pure_ (i := 2) (N := some 107) (v := ?_) (a' := ?_) #[true, false, true, false, false, false, false, false, false, false, false, false, false, false] rfl rfl (any_of HT_.out (by kernel_rfl)) (fun _ _ _ h => h) (Or.inl ⟨by rfl, ?_⟩) ?_ ?_
              rotate_left
              · intro w'
                go_simp
                with_reducible rfl
              rotate_left
              · simp only [Act.put, List.setIfInBounds_toArray, List.set_cons_zero, List.set_cons_succ, i64_w, i32_w]
                rfl
              refine pure_ (i := 4) (N := some 109) (v := ?_) (a' := ?_) #[true, false, true, false, true, false, false, false, false, false, false, false, false, false] rfl rfl (any_of HT_.out (by kernel_rfl)) (fun _ _ _ h => h) (Or.inl ⟨by rfl, ?_⟩) ?_ ?_
              rotate_left
              · intro w'
                go_simp
                with_reducible rfl
              rotate_left
              · simp only [Act.put, List.setIfInBounds_toArray, List.set_cons_zero, List.set_cons_succ, i64_w, i32_w]
                rfl
              refine pure_ (i := 5) (N := some 110) (v := ?_) (a' := ?_) #[true, false, true, false, true, true, false, false, false, false, false, false, false, false] rfl rfl (any_of HT_.out (by kernel_rfl)) (fun _ _ _ h => h) (Or.inl ⟨by rfl, ?_⟩) ?_ ?_
              rotate_left
              · intro w'
                go_simp
                with_reducible rfl
              rotate_left
              · simp only [Act.put, List.setIfInBounds_toArray, List.set_cons_zero, List.set_cons_succ, i64_w, i32_w]
                rfl
              refine pure_ (i := 6) (N := some 111) (v := ?_) (a' := ?_) #[true, false, true, false, true, true, true, false, false, false, false, false, false, false] rfl rfl (any_of HT_.out (by kernel_rfl)) (fun _ _ _ h => h) (Or.inl ⟨by rfl, ?_⟩) ?_ ?_
              rotate_left
              · intro w'
                go_simp
                with_reducible rfl
              rotate_left
              · simp only [Act.put, List.setIfInBounds_toArray, List.set_cons_zero, List.set_cons_succ, i64_w, i32_w]
                rfl
              refine pure_ (i := 10) (N := some 115) (v := ?_) (a' := ?_) #[true, false, true, false, true, true, true, false, false, false, true, false, false, false] rfl rfl (any_of HT_.out (by kernel_rfl)) (fun _ _ _ h => h) (Or.inl ⟨by rfl, ?_⟩) ?_ ?_
              rotate_left
              · intro w'
                go_simp
                with_reducible rfl
              rotate_left
              · simp only [Act.put, List.setIfInBounds_toArray, List.set_cons_zero, List.set_cons_succ, i64_w, i32_w]
                rfl
              refine take_ (i := 1) (N := some 106) (v := ?_) (a' := ?_) #[true, true, true, false, true, true, true, false, false, false, true, false, false, false] rfl rfl (take_ofW HT_.out HW_.out (by kernel_rfl)) (fun _ _ _ h => h) (Or.inl ⟨by rfl, ?_⟩) hHeld ?_ ?_
              rotate_left
              · rintro w' ⟨s0, s1, s2⟩
                go_simp
                with_reducible rfl
              rotate_left
              · simp only [Act.put, List.setIfInBounds_toArray, List.set_cons_zero, List.set_cons_succ, i64_w, i32_w]
                rfl
              refine pure_ (i := 3) (N := some 108) (v := ?_) (a' := ?_) #[true, true, true, true, true, true, true, false, false, false, true, false, false, false] rfl rfl (any_of HT_.out (by kernel_rfl)) (fun _ _ _ h => h) (Or.inl ⟨by rfl, ?_⟩) ?_ ?_
              rotate_left
              · intro w'
                go_simp
                with_reducible rfl
              rotate_left
              · simp only [Act.put, List.setIfInBounds_toArray, List.set_cons_zero, List.set_cons_succ, i64_w, i32_w]
                rfl
              refine take_ (i := 7) (N := some 112) (v := ?_) (a' := ?_) #[true, true, true, true, true, true, true, true, false, false, true, false, false, false] rfl rfl (take_ofW HT_.out HW_.out (by kernel_rfl)) (fun _ _ _ h => h) (Or.inl ⟨by rfl, ?_⟩) hHeld ?_ ?_
              rotate_left
              · rintro w' ⟨s0, s1, s2⟩
                go_simp
                with_reducible rfl
              rotate_left
              · simp only [Act.put, List.setIfInBounds_toArray, List.set_cons_zero, List.set_cons_succ, i64_w, i32_w]
                rfl
              refine one_ (i := 8) (N := some 113) #[true, true, true, true, true, true, true, true, true, false, true, false, false, false] rfl rfl (one_of HT_.out (by kernel_rfl)) (by decide) (fun K hK => ?_)
              refine value_ (w1 := ?_) (v := ?_) (by rfl) rfl ?_ ?_
              rotate_left 2
              · go_simp
                constructor
                · rfl
                · rfl
              refine hK.out _ _ ⟨alloc_cell hc6.out, alloc_cell hp0.out, alloc_cell hp1.out⟩ (fun hHeld => ?_)
              clear hK K
              refine norm_ (a' := ?_) ?_ ?_
              rotate_left
              · show Act.put _ (some 113) _ = _
                simp only [Act.put, List.setIfInBounds_toArray, List.set_cons_zero, List.set_cons_succ, i64_w, i32_w]
                rfl
              refine one_ (i := 9) (N := some 114) #[true, true, true, true, true, true, true, true, true, true, true, false, false, false] rfl rfl (one_of HT_.out (by kernel_rfl)) (by decide) (fun K hK => ?_)
              refine catE_step (by rfl) (.tmp 108) (.tmp 113) rfl rfl w.heap.size (.slice (some ae) k k) k (L.take k) hcut.out rfl ⟨w7.heap.size, 0, none⟩ 1 1 [pr] rfl rfl (new_cells (W := w7.drew)) (by omega) (Nat.le_trans hbl7.out (by simp)) ?_
              intro v9 w9 h9 g9
              obtain ⟨g9b, c9, rfl⟩ := Go.ownsRow_succ h9
              have Z9 : Hid (w9.cell? ⟨b6, 1, none⟩ = some (.slice (some ae) L.length k) ∧ w9.cell? (ad.add (i * 2)) = some (.string pr.1) ∧ w9.cell? ⟨(ad.add (i * 2)).block, (ad.add (i * 2)).off + 1, none⟩ = some (.string pr.2)) := ⟨cell_grown g9 (alloc_cell hc6.out) (fun e => hb6e.out (by injection e)), cell_grown g9 (alloc_cell hp0.out) (fun e => by injection e with e; have := hae.out.1; have := hadl.out; omega), cell_grown g9 (alloc_cell hp1.out) (fun e => by injection e with e; have h := hae.out.1; have h2 := hadl.out; simp only at e; omega)⟩
              have R9 : Hid (∀ j u, (flat2 (L.drop k))[j]? = some u → w9.cell? (ar.add j) = some u) := fun j u hj => cell_grown g9 (alloc_cell (w := w7.drew) (R7.out.cells j u hj)) (fun e => by
                injection e with e
                have h1 := (OwnE.lt R7.out (k := ar.block) rfl).1
                have h2 := hae.out.2
                have h3 : (ar.add j).block = ar.block := by
                  obtain ⟨_, e4, _⟩ := OwnE.block R7.out
                  rw [e4, Addr.add_lit]
                omega)
              have O9 := Lib.hid (And.intro h9 g9)
              have T9 : Hid (OfT w w9 w.heap.size b6 (names ++ flatN (l.take (i + 1))) A6 c6 (.slice (some ae) L.length k)) := by
                have h1 : OfT w w7.drew w.heap.size b6 (names ++ flatN (l.take (i + 1))) A6 c6 (.slice (some ae) L.length k) := (M7.out.drewN 1).toT
                obtain ⟨cur, _, hg, _⟩ := OwnE.block M7.out.row
                exact (h1.alloc (.cells #[.string pr.1, .string pr.2] 45)).grown g9 ⟨cur, (alloc_same w7.drew _ (Array.getElem?_eq_some_iff.1 hg).1).trans hg⟩ hae.out.1
              clear h9 g9
              refine hK.out _ _ Z9.out (fun hHeld => ?_)
              clear hK K
              refine norm_ (a' := ?_) ?_ ?_
              rotate_left
              · show Act.put _ (some 114) _ = _
                simp only [Act.put, List.setIfInBounds_toArray, List.set_cons_zero, List.set_cons_succ, i64_w, i32_w]
                rfl
              refine one_ (i := 11) (N := some 116) #[true, true, true, true, true, true, true, true, true, true, true, true, false, false] rfl rfl (one_of HT_.out (by kernel_rfl)) (by decide) (fun K hK => ?_)
              refine catE_step (by rfl) (.tmp 114) (.tmp 115) rfl rfl w.heap.size (.slice (some ⟨g9b, 0, none⟩) (k + 1) c9) (k + 1) (L.take k ++ [pr]) O9.out.1 rfl ar (L.length - k) cr (L.drop k) rfl (by rw [List.length_drop]) R9.out (by omega) (Nat.le_trans (Nat.le_trans hbl7.out (by simp)) O9.out.2.size) ?_
              intro v11 w11 h11 g11
              rw [show k + 1 + (L.length - k) = L.length + 1 from by omega] at h11
              obtain ⟨g11b, c11, rfl⟩ := Go.ownsRow_succ h11
              have T11 : Hid (OfT w w11 w.heap.size b6 (names ++ flatN (l.take (i + 1))) A6 c6 (.slice (some ae) L.length k)) := by
                rcases O9.out.1.2 with ⟨e, _⟩ | ⟨g, cap, cur, e, hge, hg, _⟩
                · cases e
                · injection e with e
                  injection e with e
                  injection e with e
                  subst e
                  exact T9.out.grown g11 ⟨cur, hg⟩ hge
              have Z11 : Hid (w11.cell? ⟨b6, 1, none⟩ = some (.slice (some ae) L.length k) ∧ w11.cell? (ad.add (i * 2)) = some (.string pr.1) ∧ w11.cell? ⟨(ad.add (i * 2)).block, (ad.add (i * 2)).off + 1, none⟩ = some (.string pr.2)) := by
                have hge : w.heap.size ≤ g9b := (World.ownsRow.lt O9.out.1 g9b rfl).1
                have had := hadl.out
                refine ⟨by simp [World.cell?, T11.out.cell], cell_grown g11 Z9.out.2.1 (fun e => ?_), cell_grown g11 Z9.out.2.2 (fun e => ?_)⟩
                · injection e with e
                  simp only at e
                  omega
                · injection e with e
                  simp only at e
                  omega
              have O11 := Lib.hid (And.intro h11 g11)
              clear h11 g11
              refine hK.out _ _ Z11.out (fun hHeld => ?_)
              clear hK K
              refine norm_ (a' := ?_) ?_ ?_
              rotate_left
              · show Act.put _ (some 116) _ = _
                simp only [Act.put, List.setIfInBounds_toArray, List.set_cons_zero, List.set_cons_succ, i64_w, i32_w]
                rfl
              refine pure_ (i := 12) (N := some 117) (v := ?_) (a' := ?_) #[true, true, true, true, true, true, true, true, true, true, true, true, true, false] rfl rfl (any_of HT_.out (by kernel_rfl)) (fun _ _ _ h => h) (Or.inl ⟨by rfl, ?_⟩) ?_ ?_
              rotate_left
              · intro w'
                go_simp
                with_reducible rfl
              rotate_left
              · simp only [Act.put, List.setIfInBounds_toArray, List.set_cons_zero, List.set_cons_succ, i64_w, i32_w]
                rfl
              have hfz : w11.frozen? ⟨b6, 1, none⟩ = false := by simp [World.frozen?, T11.out.cell]
              have hcl := Z11.out.1
              refine last_ (i := 13) (N := none) #[true, true, true, true, true, true, true, true, true, true, true, true, true, true] rfl rfl (one_of HT_.out (by kernel_rfl)) (by decide) (fun K hK => ?_)
              refine skip_ (w1 := ?_) (by rfl) rfl ?_ ?_
              rotate_left
              · go_simp
                rfl
              refine hK.out _ _ ?_
              clear hK K
              refine done_ (done_of HT_.out (by kernel_rfl)) ?_
              go_wp2_with fail
              go_roundg (l.length - i)
              case measure => omega
              case rel =>
                obtain ⟨hri, hmi⟩ := riseP_insert M6.out.rise hk HK.out (fun z hz => by
                  rw [List.getElem?_eq_none (by omega)] at hz
                  cases hz)
                have hLn : L.length + 1 = (L.take k ++ [pr] ++ L.drop k).length := by
                  simp only [List.length_append, List.length_take, List.length_drop, List.length_singleton]
                  omega
                refine ⟨i + 1, n5 + 2, A6, c6, some ⟨g11b, 0, none⟩, c11, L.take k ++ [pr] ++ L.drop k, rfl, by go_num, by omega, by omega, HN.out, ?_⟩
                exact T11.out.store hLn O11.out.1 hri (fun p => by rw [hmi p, HTK.out, List.mem_append, List.mem_singleton, M6.out.mem p]) hb46.out
            · go_wp2_with fail
              go_quiet (fail)
              go_wp2_with fail
              go_quiet (fail)
              obtain ⟨i0, hi45, hz0, hz1, hz2⟩ := info_parts infoE
              go_wp2_with (at_builtin; refine wpList_append_own _ rfl (.tmp 99) (.tmp 103) 22 rfl w6.heap.size 45 i0 (.agg #[(.string ⟨#[]⟩), (.string ⟨#[]⟩)]) 2 32 Try.underlying22 hi45 hz0 hz1 hz2 rfl (by decide) _ 0 [] rfl (World.ownsRow_made _ #[] 0 (Nat.le_refl _) (Nat.zero_le _) rfl) (ae.add (k * 2)) (L.length - k) (ce - k) (flat2 (L.drop k)) rfl ?qc1 ?qc2 (one_flat2 _) ?qc4 ?qc5 ?qc6 ?_)
              case qc1 => rw [flat2_len, List.length_drop]
              case qc2 => exact drop_cells M6.out.row
              case qc4 => unfold maxLen; omega
              case qc5 => omega
              case qc6 => simp
              intro v7 w7 hown7 g7 hnil7
              have hb7 : Below w6.heap.size w6 w7 := ((pw_below_drewN (Below.refl w6.heap.size w6) _).alloc (by simp) _).grown g7 (by simp) (fun k e => by simp [Value.ownBlock] at e; omega)
              have M7 := Lib.hid (M6.out.below hb7)
              have E7 : Hid (w7.cell? (ad.add (i * 2)) = some (.string pr.1) ∧ w7.cell? ⟨(ad.add (i * 2)).block, (ad.add (i * 2)).off + 1, none⟩ = some (.string pr.2)) := ⟨cell_below hb7 he0, cell_below hb7 he1⟩
              obtain ⟨ar, cr, hv7⟩ : ∃ ar cr, v7 = .slice (some ar) (L.length - k) cr := by
                have h7 := hown7
                rcases h7.2 with ⟨e, _⟩ | ⟨g, cap, cur, e, _⟩
                · exact (hnil7 e).elim
                · exact ⟨_, _, e⟩
              subst hv7
              have R7 : Hid (OwnE w7 w6.heap.size (some ar) cr (L.drop k)) := by
                unfold OwnE
                rw [List.length_drop]
                have h7 := hown7
                exact h7
              have S67 := Lib.hid hb7.size
              clear hown7 g7 hnil7 hb7 hce hce2 he0 he1
              go_wp2_with fail
              have hc6 : Hid (w7.drew.cell? ⟨b6, 1, none⟩ = some (.slice (some ae) L.length ce)) := M7.out.edges
              have hp0 : Hid (w7.drew.cell? (ad.add (i * 2)) = some (.string pr.1)) := E7.out.1
              have hp1 : Hid (w7.drew.cell? ⟨(ad.add (i * 2)).block, (ad.add (i * 2)).off + 1, none⟩ = some (.string pr.2)) := E7.out.2
              have hcut : Hid ((w7.drew.alloc (.cells #[.string pr.1, .string pr.2] 45)).ownsRow w.heap.size 45 2 (.slice (some ae) k ce) k (flat2 (L.take k))) := World.ownsRow.alloc (OwnE.cut (w := w7.drew) M7.out.row hk) _
              have hkce : k ≤ ce := by
                obtain ⟨_, _, _, hro⟩ := OwnE.block M6.out.row
                omega
              have hkI2 : (k : Int) ≤ (ce : Int) := by omega
              have hbl7 : Hid (w.heap.size ≤ w7.heap.size) := M7.out.bl.size
              have hae : Hid (w.heap.size ≤ ae.block ∧ ae.block < w6.heap.size) := OwnE.lt M6.out.row (k := ae.block) rfl
              have hadl : Hid ((ad.add (i * 2)).block < w.heap.size) := by
                obtain ⟨ad', _, _, hA', hca, _⟩ := at_pair X.out.1 i hlt
                injection hA' with hA'
                subst hA'
                exact World.block_lt_of_cell? _ _ hca
              have hb6e : Hid (b6 ≠ ae.block) := by
                intro e
                obtain ⟨cur, _, hg, _⟩ := OwnE.block M7.out.row
                have h6 := M7.out.cell
                rw [e, hg] at h6
                injection h6 with h6
                injection h6 with _ h6
                exact absurd h6 (by decide)
              refine start_ (n := 14) (S := fun w' => w'.cell? ⟨b6, 1, none⟩ = some (.slice (some ae) L.length ce) ∧ w'.cell? (ad.add (i * 2)) = some (.string pr.1) ∧ w'.cell? ⟨(ad.add (i * 2)).block, (ad.add (i * 2)).off + 1, none⟩ = some (.string pr.2)) (ds := [13]) #[false, false, false, false, false, false, false, false, false, false, false, false, false, false] (by kernel_rfl) rfl rfl ⟨hc6.out, hp0.out, hp1.out⟩ (fun hHeld => ?_); refine with_tabW of12_tab of12_bits (fun HT_ HW_ => ?_)
              refine pure_ (i := 0) (N := some 105) (v := ?_) (a' := ?_) #[true, false, false, false, false, false, false, false, false, false, false, false, false, false] rfl rfl (any_of HT_.out (by kernel_rfl)) (fun _ _ _ h => h) (Or.inl ⟨by rfl, ?_⟩) ?_ ?_
              rotate_left
              · intro w'
                go_simp
                with_reducible rfl
              rotate_left
              · simp only [Act.put, List.setIfInBounds_toArray, List.set_cons_zero, List.set_cons_succ, i64_w, i32_w]
                rfl
              refine pure_ (i := 2) (N := some 107) (v := ?_) (a' := ?_) #[true, false, true, false, false, false, false, false, false, false, false, false, false, false] rfl rfl (any_of HT_.out (by kernel_rfl)) (fun _ _ _ h => h) (Or.inl ⟨by rfl, ?_⟩) ?_ ?_
              rotate_left
              · intro w'
                go_simp
                with_reducible rfl
              rotate_left
              · simp only [Act.put, List.setIfInBounds_toArray, List.set_cons_zero, List.set_cons_succ, i64_w, i32_w]
                rfl
              refine pure_ (i := 4) (N := some 109) (v := ?_) (a' := ?_) #[true, false, true, false, true, false, false, false, false, false, false, false, false, false] rfl rfl (any_of HT_.out (by kernel_rfl)) (fun _ _ _ h => h) (Or.inl ⟨by rfl, ?_⟩) ?_ ?_
              rotate_left
              · intro w'
                go_simp
                with_reducible rfl
              rotate_left
              · simp only [Act.put, List.setIfInBounds_toArray, List.set_cons_zero, List.set_cons_succ, i64_w, i32_w]
                rfl
              refine pure_ (i := 5) (N := some 110) (v := ?_) (a' := ?_) #[true, false, true, false, true, true, false, false, false, false, false, false, false, false] rfl rfl (any_of HT_.out (by kernel_rfl)) (fun _ _ _ h => h) (Or.inl ⟨by rfl, ?_⟩) ?_ ?_
              rotate_left
              · intro w'
                go_simp
                with_reducible rfl
              rotate_left
              · simp only [Act.put, List.setIfInBounds_toArray, List.set_cons_zero, List.set_cons_succ, i64_w, i32_w]
                rfl
              refine pure_ (i := 6) (N := some 111) (v := ?_) (a' := ?_) #[true, false, true, false, true, true, true, false, false, false, false, false, false, false] rfl rfl (any_of HT_.out (by kernel_rfl)) (fun _ _ _ h => h) (Or.inl ⟨by rfl, ?_⟩) ?_ ?_
              rotate_left
              · intro w'
                go_simp
                with_reducible rfl
              rotate_left
              · simp only [Act.put, List.setIfInBounds_toArray, List.set_cons_zero, List.set_cons_succ, i64_w, i32_w]
                rfl
              refine pure_ (i := 10) (N := some 115) (v := ?_) (a' := ?_) #[true, false, true, false, true, true, true, false, false, false, true, false, false, false] rfl rfl (any_of HT_.out (by kernel_rfl)) (fun _ _ _ h => h) (Or.inl ⟨by rfl, ?_⟩) ?_ ?_
              rotate_left
              · intro w'
                go_simp
                with_reducible rfl
              rotate_left
              · simp only [Act.put, List.setIfInBounds_toArray, List.set_cons_zero, List.set_cons_succ, i64_w, i32_w]
                rfl
              refine take_ (i := 1) (N := some 106) (v := ?_) (a' := ?_) #[true, true, true, false, true, true, true, false, false, false, true, false, false, false] rfl rfl (take_ofW HT_.out HW_.out (by kernel_rfl)) (fun _ _ _ h => h) (Or.inl ⟨by rfl, ?_⟩) hHeld ?_ ?_
              rotate_left
              · rintro w' ⟨s0, s1, s2⟩
                go_simp
                with_reducible rfl
              rotate_left
              · simp only [Act.put, List.setIfInBounds_toArray, List.set_cons_zero, List.set_cons_succ, i64_w, i32_w]
                rfl
              refine pure_ (i := 3) (N := some 108) (v := ?_) (a' := ?_) #[true, true, true, true, true, true, true, false, false, false, true, false, false, false] rfl rfl (any_of HT_.out (by kernel_rfl)) (fun _ _ _ h => h) (Or.inl ⟨by rfl, ?_⟩) ?_ ?_
              rotate_left
              · intro w'
                go_simp
                with_reducible rfl
              rotate_left
              · simp only [Act.put, List.setIfInBounds_toArray, List.set_cons_zero, List.set_cons_succ, i64_w, i32_w]
                rfl
              refine take_ (i := 7) (N := some 112) (v := ?_) (a' := ?_) #[true, true, true, true, true, true, true, true, false, false, true, false, false, false] rfl rfl (take_ofW HT_.out HW_.out (by kernel_rfl)) (fun _ _ _ h => h) (Or.inl ⟨by rfl, ?_⟩) hHeld ?_ ?_
              rotate_left
              · rintro w' ⟨s0, s1, s2⟩
                go_simp
                with_reducible rfl
              rotate_left
              · simp only [Act.put, List.setIfInBounds_toArray, List.set_cons_zero, List.set_cons_succ, i64_w, i32_w]
                rfl
              refine one_ (i := 8) (N := some 113) #[true, true, true, true, true, true, true, true, true, false, true, false, false, false] rfl rfl (one_of HT_.out (by kernel_rfl)) (by decide) (fun K hK => ?_)
              refine value_ (w1 := ?_) (v := ?_) (by rfl) rfl ?_ ?_
              rotate_left 2
              · go_simp
                constructor
                · rfl
                · rfl
              refine hK.out _ _ ⟨alloc_cell hc6.out, alloc_cell hp0.out, alloc_cell hp1.out⟩ (fun hHeld => ?_)
              clear hK K
              refine norm_ (a' := ?_) ?_ ?_
              rotate_left
              · show Act.put _ (some 113) _ = _
                simp only [Act.put, List.setIfInBounds_toArray, List.set_cons_zero, List.set_cons_succ, i64_w, i32_w]
                rfl
              refine one_ (i := 9) (N := some 114) #[true, true, true, true, true, true, true, true, true, true, true, false, false, false] rfl rfl (one_of HT_.out (by kernel_rfl)) (by decide) (fun K hK => ?_)
              refine catE_step (by rfl) (.tmp 108) (.tmp 113) rfl rfl w.heap.size (.slice (some ae) k ce) k (L.take k) hcut.out rfl ⟨w7.heap.size, 0, none⟩ 1 1 [pr] rfl rfl (new_cells (W := w7.drew)) (by omega) (Nat.le_trans hbl7.out (by simp)) ?_
              intro v9 w9 h9 g9
              obtain ⟨g9b, c9, rfl⟩ := Go.ownsRow_succ h9
              have Z9 : Hid (w9.cell? ⟨b6, 1, none⟩ = some (.slice (some ae) L.length ce) ∧ w9.cell? (ad.add (i * 2)) = some (.string pr.1) ∧ w9.cell? ⟨(ad.add (i * 2)).block, (ad.add (i * 2)).off + 1, none⟩ = some (.string pr.2)) := ⟨cell_grown g9 (alloc_cell hc6.out) (fun e => hb6e.out (by injection e)), cell_grown g9 (alloc_cell hp0.out) (fun e => by injection e with e; have := hae.out.1; have := hadl.out; omega), cell_grown g9 (alloc_cell hp1.out) (fun e => by injection e with e; have h := hae.out.1; have h2 := hadl.out; simp only at e; omega)⟩
              have R9 : Hid (∀ j u, (flat2 (L.drop k))[j]? = some u → w9.cell? (ar.add j) = some u) := fun j u hj => cell_grown g9 (alloc_cell (w := w7.drew) (R7.out.cells j u hj)) (fun e => by
                injection e with e
                have h1 := (OwnE.lt R7.out (k := ar.block) rfl).1
                have h2 := hae.out.2
                have h3 : (ar.add j).block = ar.block := by
                  obtain ⟨_, e4, _⟩ := OwnE.block R7.out
                  rw [e4, Addr.add_lit]
                omega)
              have O9 := Lib.hid (And.intro h9 g9)
              have T9 : Hid (OfT w w9 w.heap.size b6 (names ++ flatN (l.take (i + 1))) A6 c6 (.slice (some ae) L.length ce)) := by
                have h1 : OfT w w7.drew w.heap.size b6 (names ++ flatN (l.take (i + 1))) A6 c6 (.slice (some ae) L.length ce) := (M7.out.drewN 1).toT
                obtain ⟨cur, _, hg, _⟩ := OwnE.block M7.out.row
                exact (h1.alloc (.cells #[.string pr.1, .string pr.2] 45)).grown g9 ⟨cur, (alloc_same w7.drew _ (Array.getElem?_eq_some_iff.1 hg).1).trans hg⟩ hae.out.1
              clear h9 g9
              refine hK.out _ _ Z9.out (fun hHeld => ?_)
              clear hK K
              refine norm_ (a' := ?_) ?_ ?_
              rotate_left
              · show Act.put _ (some 114) _ = _
                simp only [Act.put, List.setIfInBounds_toArray, List.set_cons_zero, List.set_cons_succ, i64_w, i32_w]
                rfl
              refine one_ (i := 11) (N := some 116) #[true, true, true, true, true, true, true, true, true, true, true, true, false, false] rfl rfl (one_of HT_.out (by kernel_rfl)) (by decide) (fun K hK => ?_)
              refine catE_step (by rfl) (.tmp 114) (.tmp 115) rfl rfl w.heap.size (.slice (some ⟨g9b, 0, none⟩) (k + 1) c9) (k + 1) (L.take k ++ [pr]) O9.out.1 rfl ar (L.length - k) cr (L.drop k) rfl (by rw [List.length_drop]) R9.out (by omega) (Nat.le_trans (Nat.le_trans hbl7.out (by simp)) O9.out.2.size) ?_
              intro v11 w11 h11 g11
              rw [show k + 1 + (L.length - k) = L.length + 1 from by omega] at h11
              obtain ⟨g11b, c11, rfl⟩ := Go.ownsRow_succ h11
              have T11 : Hid (OfT w w11 w.heap.size b6 (names ++ flatN (l.take (i + 1))) A6 c6 (.slice (some ae) L.length ce)) := by
                rcases O9.out.1.2 with ⟨e, _⟩ | ⟨g, cap, cur, e, hge, hg, _⟩
                · cases e
                · injection e with e
                  injection e with e
                  injection e with e
                  subst e
                  exact T9.out.grown g11 ⟨cur, hg⟩ hge
              have Z11 : Hid (w11.cell? ⟨b6, 1, none⟩ = some (.slice (some ae) L.length ce) ∧ w11.cell? (ad.add (i * 2)) = some (.string pr.1) ∧ w11.cell? ⟨(ad.add (i * 2)).block, (ad.add (i * 2)).off + 1, none⟩ = some (.string pr.2)) := by
                have hge : w.heap.size ≤ g9b := (World.ownsRow.lt O9.out.1 g9b rfl).1
                have had := hadl.out
                refine ⟨by simp [World.cell?, T11.out.cell], cell_grown g11 Z9.out.2.1 (fun e => ?_), cell_grown g11 Z9.out.2.2 (fun e => ?_)⟩
                · injection e with e
                  simp only at e
                  omega
                · injection e with e
                  simp only at e
                  omega
              have O11 := Lib.hid (And.intro h11 g11)
              clear h11 g11
              refine hK.out _ _ Z11.out (fun hHeld => ?_)
              clear hK K
              refine norm_ (a' := ?_) ?_ ?_
              rotate_left
              · show Act.put _ (some 116) _ = _
                simp only [Act.put, List.setIfInBounds_toArray, List.set_cons_zero, List.set_cons_succ, i64_w, i32_w]
                rfl
              refine pure_ (i := 12) (N := some 117) (v := ?_) (a' := ?_) #[true, true, true, true, true, true, true, true, true, true, true, true, true, false] rfl rfl (any_of HT_.out (by kernel_rfl)) (fun _ _ _ h => h) (Or.inl ⟨by rfl, ?_⟩) ?_ ?_
              rotate_left
              · intro w'
                go_simp
                with_reducible rfl
              rotate_left
              · simp only [Act.put, List.setIfInBounds_toArray, List.set_cons_zero, List.set_cons_succ, i64_w, i32_w]
                rfl
              have hfz : w11.frozen? ⟨b6, 1, none⟩ = false := by simp [World.frozen?, T11.out.cell]
              have hcl := Z11.out.1
              refine last_ (i := 13) (N := none) #[true, true, true, true, true, true, true, true, true, true, true, true, true, true] rfl rfl (one_of HT_.out (by kernel_rfl)) (by decide) (fun K hK => ?_)
              refine skip_ (w1 := ?_) (by rfl) rfl ?_ ?_
              rotate_left
              · go_simp
                rfl
              refine hK.out _ _ ?_
              clear hK K
              refine done_ (done_of HT_.out (by kernel_rfl)) ?_
              go_wp2_with fail
              go_roundg (l.length - i)
              case measure => omega
              case rel =>
                obtain ⟨hri, hmi⟩ := riseP_insert M6.out.rise hk HK.out (fun z hz => by
                  rw [List.getElem?_eq_none (by omega)] at hz
                  cases hz)
                have hLn : L.length + 1 = (L.take k ++ [pr] ++ L.drop k).length := by
                  simp only [List.length_append, List.length_take, List.length_drop, List.length_singleton]
                  omega
                refine ⟨i + 1, n5 + 2, A6, c6, some ⟨g11b, 0, none⟩, c11, L.take k ++ [pr] ++ L.drop k, rfl, by go_num, by omega, by omega, HN.out, ?_⟩
                exact T11.out.store hLn O11.out.1 hri (fun p => by rw [hmi p, HTK.out, List.mem_append, List.mem_singleton, M6.out.mem p]) hb46.out
    · obtain ⟨r, ⟨k0, hk0⟩, hrise, hmem⟩ := sorted_ev (x0 := names ++ flatN (l.take i)) (by rw [← hn5]; omega)
      have HS : Hid (Calls Try.prog 39 #[.slice (some A5) n5 c5] wr fun e w' => ∃ (An : Option Addr) (cn : Nat), e = .returned (.slice An r.length cn) ∧ Kd.R Kd.string 9 w' wr.heap.size (fun _ => True) (.slice An r.length cn) r ∧ Below wr.heap.size wr w') := by
        have h := PGraphFinds.brickyardref19_Sorted.calls k0 (some A5) c5 (names ++ flatN (l.take i)) r wr HA.out.own.reads (Kd.R_reads' HA.out.own.kd).2.1 (hk0 k0 (Nat.le_refl _))
        rw [← hn5] at h
        refine h.mono ?_
        rintro e w' ⟨v0, rfl, hR, hb⟩
        obtain ⟨An, cn, rfl⟩ := Kd.R_slice hR
        exact ⟨An, cn, rfl, hR, hb⟩
      have V : Hid (Rise r ∧ (∀ z, z ∈ r ↔ z ∈ names ∨ ∃ e ∈ l, e.1 = z ∨ e.2 = z) ∧ (∀ p, p ∈ L ↔ p ∈ l)) := by
        have ht : l.take i = l := List.take_of_length_le (by omega)
        refine ⟨hrise, fun z => ?_, fun p => ?_⟩
        · rw [hmem z, List.mem_append, ht, flatN_mem]
        · rw [HA.out.mem p, ht]
      clear hk0 hrise hmem hn5 hn5'
      go_wp2_with fail
      refine HS.out.mono ?_
      rintro e w8 ⟨An, cn, rfl, hR, hb8⟩
      have M8 := Lib.hid (HA.out.below hb8)
      have C8 := Lib.hid hR
      have hwb : Hid (w.heap.size ≤ wr.heap.size) := HA.out.bl.size
      clear HS HA hR hb8
      have hc0 : w8.cell? ⟨b6, 0, none⟩ = some (.slice none 0 0) := by simp [World.cell?, M8.out.cell]
      have hf0 : w8.frozen? ⟨b6, 0, none⟩ = false := by simp [World.frozen?, M8.out.cell]
      have hc1 : w8.cell? ⟨b6, 1, none⟩ = some (.slice Ae L.length ce) := M8.out.edges
      have hd0 : w8.cell? ⟨w.heap.size, 0, none⟩ = some (.slice none 0 0) := by simp [World.cell?, M8.out.res]
      have hd1 : w8.cell? ⟨w.heap.size, 1, none⟩ = some (.slice none 0 0) := by simp [World.cell?, M8.out.res]
      have hg0 : w8.frozen? ⟨w.heap.size, 0, none⟩ = false := by simp [World.frozen?, M8.out.res]
      have hg1 : w8.frozen? ⟨w.heap.size, 1, none⟩ = false := by simp [World.frozen?, M8.out.res]
      have hne := hb46.out
      have hne2 := hne.symm
      go_wp2_with fail
      have FIN := Lib.hid (OfS.done M8.out C8.out hwb.out V.out.1 V.out.2.1 V.out.2.2 hb46.out (.slice An r.length cn) (.slice An r.length cn) (.slice Ae L.length ce))
      clear M8 C8 V X hwb
      refine bodyPost_ret (v := .agg #[.slice An r.length cn, .slice Ae L.length ce]) ?_ rfl FIN.out
      simp [results, Try.results11, go_sem, hd0, hd1, hg0, hg1, hne, hne2, hc0, hc1]
end Go.Proofs.Ytlccejbomgknkaa
namespace Go.Proofs.Ytlccejbomgknkaa
set_option linter.unusedVariables false
set_option linter.unusedSimpArgs false
open Go.RowKit Go.Maps Go.Proofs.YtlccejbomgknkaaW.PrintWords Go.Proofs.YtlccejbomgknkaaW.PrintLast Go.Proofs.YtlccejbomgknkaaW.PrintMore
structure TurnS (w wr : World) (u0 u1 : Value) (A5 : Option Addr) (c5 : Nat) (xs : List Pr) : Prop where
  bl : Below w.heap.size w wr
  own : OwnE wr w.heap.size A5 c5 xs
  box : wr.heap[w.heap.size]? = some (.cells #[u0, u1] 29 (0, 0))
  res : wr.heap[w.heap.size + 1]? = some (.cells #[.slice none 0 0, .slice none 0 0] 29 (0, 0))
theorem TurnS.below {w wr w' : World} {u0 u1 : Value} {A5 : Option Addr} {c5 : Nat} {xs : List Pr} (h : TurnS w wr u0 u1 A5 c5 xs) (hb : Below wr.heap.size wr w') : TurnS w w' u0 u1 A5 c5 xs :=
  ⟨h.bl.trans (hb.mono h.bl.size), OwnE.below h.own hb, (hb.block _ (Array.getElem?_eq_some_iff.1 h.box).1).trans h.box, (hb.block _ (Array.getElem?_eq_some_iff.1 h.res).1).trans h.res⟩
theorem TurnS.done {w wr w8 : World} {u0 u1 : Value} {A5 : Option Addr} {c5 : Nat} {xs l : List Pr} {names : List ByteArray} (h : TurnS w w8 u0 u1 A5 c5 xs) (hb : w.heap.size ≤ wr.heap.size) {An Ae : Option Addr} {cn ce : Nat} {rn : List ByteArray} {re : List Pr}
    (hR : Kd.R Kd.string 9 w8 wr.heap.size (fun _ => True) (.slice An rn.length cn) rn) (hE : OwnE w8 wr.heap.size Ae ce re) (h1 : Rise rn) (h2 : ∀ z, z ∈ rn ↔ z ∈ names ∨ ∃ e ∈ l, e.1 = z ∨ e.2 = z) (h3 : RiseP re) (h4 : ∀ p, p ∈ re ↔ p ∈ l) (v0 v1 : Value) :
    OfIs w l names (.returned (.agg #[.slice An rn.length cn, .slice Ae re.length ce])) ((w8.setCell ⟨w.heap.size + 1, 0, none⟩ v0).setCell ⟨w.heap.size + 1, 1, none⟩ v1) := by
  have hres2 := blk_set h.res 0 v0
  have ht : ∀ q, q ∈ 9 :: Kd.string.E → q ≠ 29 := by
    intro q hq
    have : q = 9 := by simpa [Kd.string, Kd.scalar] using hq
    omega
  have hR2 := Kd.R_set (Kd.R_set hR h.res ht 0 v0) hres2 ht 1 v1
  have hE2 : OwnE ((w8.setCell ⟨w.heap.size + 1, 0, none⟩ v0).setCell ⟨w.heap.size + 1, 1, none⟩ v1) wr.heap.size Ae ce re := by
    refine own_move hE (fun k hk => ?_)
    obtain ⟨cells, hc⟩ := own_typed hE k hk
    have h3 : k ≠ w.heap.size + 1 := by
      rintro rfl
      rw [h.res] at hc
      injection hc with hc
      injection hc with _ hc
      exact absurd hc (by decide)
    rw [Below.heap_setCell _ _ _ _ h3, Below.heap_setCell _ _ _ _ h3]
  exact ⟨An, cn, rn, Ae, ce, re, rfl, Kd.R_lower hR2 hb, own_weaken hE2 hb, h1, h2, h3, h4, (h.bl.setCell (Nat.le_succ _) _).setCell (Nat.le_succ _) _⟩
end Go.Proofs.Ytlccejbomgknkaa
namespace Go.Proofs.Ytlccejbomgknkaa
set_option linter.unusedVariables false
set_option linter.unusedSimpArgs false
set_option linter.unusedSectionVars false
open Go.RowKit Go.Maps Go.Proofs.YtlccejbomgknkaaW.PrintWords Go.Proofs.YtlccejbomgknkaaW.PrintLast
open PGraphFinds
theorem walk_back {E : Rel} : ∀ {n : Nat} {x y : ByteArray}, WalkN E n x y → WalkN (fun a b => E b a) n y x
  | 0, x, y, h => by
    have h' : x = y := h
    exact h'.symm
  | n + 1, x, y, h => by
    obtain ⟨z, hz, h'⟩ := h
    exact walk_add (m := n) (n := 1) (walk_back h') ⟨x, hz, rfl⟩
theorem dist_back {E : Rel} {n : Nat} {x y : ByteArray} (h : Dist E x y n) : Dist (fun a b => E b a) y x n :=
  ⟨walk_back h.1, fun m hm hw => h.2 m hm (walk_back hw)⟩
def FarIs (E : Rel) (a b : ByteArray) (v : Int) : Prop := (∀ d : Nat, Dist E a b d → v = (d : Int)) ∧ (¬ Reach E a b → v = -1)
section
variable {l : List S45} {a b : ByteArray} (hb : l.length ≤ 1000)
include hb
theorem met_len {F : List (ByteArray × Nat)} (hn : (F.map Prod.fst).Nodup) (hd : ∀ x d, (x, d) ∈ F → Dist (fun x y => edg l y x) x a d) : F.length ≤ l.length + 1 := by
  have := nodup_len hn (N := a :: l.map (fun e => e.f1)) (fun x hx => by
    obtain ⟨⟨x', d⟩, hp, rfl⟩ := List.mem_map.1 hx
    have h := hd x' d hp
    cases d with
    | zero => exact List.mem_cons.2 (.inl (dist_zero.1 h))
    | succ d =>
      obtain ⟨z, ⟨e, he, _, hf⟩, _⟩ := h.1
      exact List.mem_cons_of_mem _ (List.mem_map.2 ⟨e, he, hf⟩))
  simpa using this
theorem mid_dist {n : Nat} {F0 F : List (ByteArray × Nat)} {wave next : List ByteArray} {P : ByteArray → ByteArray → Prop} (h : BfsMid (fun x y => edg l y x) a n F0 wave P F next) : ∀ x d, (x, d) ∈ F → Dist (fun x y => edg l y x) x a d := by
  intro x d hx
  rcases (h.fr x d).1 hx with h1 | ⟨rfl, h1⟩
  · exact ((h.st.far x d).1 h1).1
  · exact ((h.nx x).1 h1).1
theorem far_l2 (gn : List ByteArray) {c : Nat} {F0 : List (ByteArray × Nat)} {wave : List ByteArray} {i : Nat} (hi : i < wave.length) {cur : ByteArray} (hcur : cur = rdOf ByteArray.empty wave (i : Int)) {r : List ByteArray} (hr : ∀ z, z ∈ r ↔ edg l cur z) (hrl : r.length ≤ 1000000)
    (K : ∀ F next, BfsMid (fun x y => edg l y x) a (c + 1) F0 wave (fun x y => edg l y x ∧ y ∈ wave.take (i + 1)) F next → (F.map Prod.fst).Nodup → next.length ≤ F.length → ∃ v, Ev (fun k => brickyardref19_far.l1 k b wave (F.map Prod.fst) (c : Int) next (i + 1 : Nat) gn l) v ∧ FarIs (edg l) a b v) (hil : i ≤ 1000000) :
    ∀ (m j : Nat), j ≤ r.length → r.length ≤ m + j → ∀ F next, BfsMid (fun x y => edg l y x) a (c + 1) F0 wave (fun x y => (edg l y x ∧ y ∈ wave.take i) ∨ (y = cur ∧ x ∈ r.take j)) F next → (F.map Prod.fst).Nodup → next.length ≤ F.length →
      ∃ v, Ev (fun k => brickyardref19_far.l2 k b wave (F.map Prod.fst) (c : Int) next (i : Int) r (j : Int) gn l) v ∧ FarIs (edg l) a b v := by
  have hcw : cur ∈ wave := by rw [hcur]; exact List.mem_of_getElem? (has_at hi)
  have hend : ∀ j, r.length ≤ j → ∀ F next, BfsMid (fun x y => edg l y x) a (c + 1) F0 wave (fun x y => (edg l y x ∧ y ∈ wave.take i) ∨ (y = cur ∧ x ∈ r.take j)) F next → (F.map Prod.fst).Nodup → next.length ≤ F.length → ∃ v, Ev (fun k => brickyardref19_far.l2 k b wave (F.map Prod.fst) (c : Int) next (i : Int) r (j : Int) gn l) v ∧ FarIs (edg l) a b v := by
    intro j hj F next hB hn hl
    obtain ⟨v, hv, hs⟩ := K F next (hB.congr fun x y => by
      rw [List.take_of_length_le hj, take_mem hi hcur y, hr x]
      constructor
      · rintro (⟨h1, h2⟩ | ⟨rfl, h1⟩)
        · exact ⟨h1, .inl h2⟩
        · exact ⟨h1, .inr rfl⟩
      · rintro ⟨h1, h2 | rfl⟩
        · exact .inl ⟨h1, h2⟩
        · exact .inr ⟨rfl, h1⟩) hn hl
    refine ⟨v, hv.step ⟨0, fun k _ => ?_⟩, hs⟩
    simp only [brickyardref19_far.l2]
    rw [if_neg (by omega), w64 (by omega)]
  intro m
  induction m with
  | zero => intro j hj hm; exact hend j (by omega)
  | succ m ih =>
    intro j hj hm F next hB hn hl
    by_cases hjl : j < r.length
    · obtain ⟨t, ht⟩ : ∃ t, t = rdOf ByteArray.empty r (j : Int) := ⟨_, rfl⟩
      have htr : t ∈ r := by rw [ht]; exact List.mem_of_getElem? (has_at hjl)
      have hE : edg l cur t := (hr t).1 htr
      have hFl := met_len hb hn (mid_dist hb hB)
      have hcg : ∀ x y, ((edg l y x ∧ y ∈ wave.take i) ∨ (y = cur ∧ x ∈ r.take j)) ∨ (x = t ∧ y = cur) ↔ (edg l y x ∧ y ∈ wave.take i) ∨ (y = cur ∧ x ∈ r.take (j + 1)) := by
        intro x y
        rw [take_mem hjl ht x]
        constructor
        · rintro ((h | ⟨h1, h2⟩) | ⟨h1, h2⟩)
          · exact .inl h
          · exact .inr ⟨h1, .inl h2⟩
          · exact .inr ⟨h2, .inr h1⟩
        · rintro (h | ⟨h1, h2 | h2⟩)
          · exact .inl (.inl h)
          · exact .inl (.inr ⟨h1, h2⟩)
          · exact .inr ⟨h2, h1⟩
      obtain ⟨kh, hkh⟩ : ∃ kh, ∀ k, kh ≤ k → brickyardref19_has.f k (F.map Prod.fst) t = some (Lib.containsS (F.map Prod.fst) t) := has_ev (x0 := F.map Prod.fst) (by rw [List.length_map]; omega) t
      by_cases hin : t ∈ F.map Prod.fst
      · obtain ⟨⟨t', d⟩, hp, hpe⟩ := List.mem_map.1 hin
        have hpe' : t' = t := hpe
        subst hpe'
        obtain ⟨v, hv, hs⟩ := ih (j + 1) (by omega) (by omega) F next ((hB.skip hcw hE hp).congr hcg) hn hl
        refine ⟨v, hv.step ⟨kh, fun k hk => ?_⟩, hs⟩
        simp only [brickyardref19_far.l2]
        rw [if_pos (by omega), if_pos (by omega), ← ht, hkh k hk, contains_yes hin, w64 (by omega)]
        rfl
      · have hno : ∀ d, (t, d) ∉ F := fun d h => hin (List.mem_map.2 ⟨_, h, rfl⟩)
        have hB' := (hB.take hcw hE hno).1.congr hcg
        obtain ⟨v, hv, hs⟩ := ih (j + 1) (by omega) (by omega) (F ++ [(t, c + 1)]) (next ++ [t]) hB' (by
          rw [List.map_append, List.nodup_append]
          refine ⟨hn, List.nodup_cons.2 ⟨List.not_mem_nil, List.nodup_nil⟩, fun x hx y hy e => ?_⟩
          have hy' : y = t := by simpa using hy
          subst e; subst hy'
          exact hin hx) (by rw [List.length_append, List.length_append]; simp only [List.length_singleton]; omega)
        refine ⟨v, hv.step ⟨kh, fun k hk => ?_⟩, hs⟩
        simp only [brickyardref19_far.l2]
        rw [if_pos (by omega), if_pos (by omega), ← ht, hkh k hk, contains_no hin, w64 (by omega), List.map_append]
        simp only [Option.bind_some, Bool.false_eq_true, if_false]
        rw [if_pos (by rw [List.length_map]; omega), if_pos (by omega)]
        rfl
    · exact hend j (by omega) F next hB hn hl
theorem far_l1 (gn : List ByteArray) {c : Nat} {F0 : List (ByteArray × Nat)} {wave : List ByteArray} (hwl : wave.length ≤ 1000000) (hc : c ≤ 1000000)
    (K : ∀ F next, Bfs (fun x y => edg l y x) a (c + 2) F next → (F.map Prod.fst).Nodup → next.length ≤ F.length → ∃ v, Ev (fun k => brickyardref19_far.l0 k b next (F.map Prod.fst) (c + 1 : Nat) gn l) v ∧ FarIs (edg l) a b v) :
    ∀ (m i : Nat), i ≤ wave.length → wave.length ≤ m + i → ∀ F next, BfsMid (fun x y => edg l y x) a (c + 1) F0 wave (fun x y => edg l y x ∧ y ∈ wave.take i) F next → (F.map Prod.fst).Nodup → next.length ≤ F.length →
      ∃ v, Ev (fun k => brickyardref19_far.l1 k b wave (F.map Prod.fst) (c : Int) next (i : Int) gn l) v ∧ FarIs (edg l) a b v := by
  have hend : ∀ i, wave.length ≤ i → ∀ F next, BfsMid (fun x y => edg l y x) a (c + 1) F0 wave (fun x y => edg l y x ∧ y ∈ wave.take i) F next → (F.map Prod.fst).Nodup → next.length ≤ F.length → ∃ v, Ev (fun k => brickyardref19_far.l1 k b wave (F.map Prod.fst) (c : Int) next (i : Int) gn l) v ∧ FarIs (edg l) a b v := by
    intro i hi F next hB hn hl
    obtain ⟨v, hv, hs⟩ := K F next (hB.through fun x y hy hE => ⟨hE, by rw [List.take_of_length_le hi]; exact hy⟩) hn hl
    refine ⟨v, hv.step ⟨0, fun k _ => ?_⟩, hs⟩
    simp only [brickyardref19_far.l1]
    rw [if_neg (by omega), w64 (by omega)]
  intro m
  induction m with
  | zero => intro i hi hm; exact hend i (by omega)
  | succ m ih =>
    intro i hi hm F next hB hn hl
    by_cases hil : i < wave.length
    · obtain ⟨r, hev, hrise, hmem⟩ := out_ev gn (l := l) (by omega) (rdOf ByteArray.empty wave (i : Int))
      obtain ⟨ko, hko⟩ : ∃ ko, ∀ k, ko ≤ k → brickyardref19_Out.f k gn l (rdOf ByteArray.empty wave (i : Int)) = some r := hev
      have hrl : r.length ≤ 1000000 := by
        have := nodup_len (rise_nodup hrise) (N := l.map (fun e => e.f1)) (fun z hz => by
          obtain ⟨e, he, _, hf⟩ := (hmem z).1 hz
          exact List.mem_map.2 ⟨e, he, hf⟩)
        rw [List.length_map] at this
        omega
      obtain ⟨v, hv, hs⟩ := far_l2 hb gn hil rfl hmem hrl (fun F' next' hB' hn' hl' => ih (i + 1) (by omega) (by omega) F' next' hB' hn' hl') (by omega) r.length 0 (by omega) (by omega) F next (hB.congr fun x y => by simp) hn hl
      refine ⟨v, hv.step ⟨ko, fun k hk => ?_⟩, hs⟩
      simp only [brickyardref19_far.l1]
      rw [if_pos (by omega), if_pos (by omega), hko k hk]
      rfl
    · exact hend i (by omega) F next hB hn hl
theorem far_l0 (gn : List ByteArray) : ∀ (m c : Nat) (F : List (ByteArray × Nat)) (wave : List ByteArray), 2 * l.length + 2 ≤ m + c → Bfs (fun x y => edg l y x) a (c + 1) F wave → (F.map Prod.fst).Nodup → wave.length ≤ F.length → (∀ d, d < c → ¬ Dist (edg l) a b d) →
    ∃ v, Ev (fun k => brickyardref19_far.l0 k b wave (F.map Prod.fst) (c : Int) gn l) v ∧ FarIs (edg l) a b v := by
  intro m
  have hlen : ∀ (c : Nat) (F : List (ByteArray × Nat)) (wave : List ByteArray), Bfs (fun x y => edg l y x) a (c + 1) F wave → (F.map Prod.fst).Nodup → F.length ≤ l.length + 1 := fun c F wave hB hn => met_len hb hn (fun x d hx => ((hB.far x d).1 hx).1)
  have hcb : ∀ (c : Nat) (F : List (ByteArray × Nat)) (wave : List ByteArray) {y : ByteArray}, Bfs (fun x y => edg l y x) a (c + 1) F wave → y ∈ wave → c < 2 * l.length + 1 := by
    intro c F wave y hB hy
    have h1 := dist_lt (N := a :: (l.map (fun e => e.f1) ++ l.map (fun e => e.f0))) (E := fun x y => edg l y x) (fun x y hh => by
      obtain ⟨e, he, h0, h1⟩ := hh
      exact ⟨List.mem_cons_of_mem _ (List.mem_append_left _ (List.mem_map.2 ⟨e, he, h1⟩)), List.mem_cons_of_mem _ (List.mem_append_right _ (List.mem_map.2 ⟨e, he, h0⟩))⟩) (List.mem_cons_self ..) ((hB.wav y).1 hy)
    rw [List.length_cons, List.length_append, List.length_map, List.length_map, Nat.add_sub_cancel] at h1
    omega
  have hempty : ∀ (c : Nat) (F : List (ByteArray × Nat)), Bfs (fun x y => edg l y x) a (c + 1) F [] → (∀ d, d < c → ¬ Dist (edg l) a b d) → ∃ v, Ev (fun k => brickyardref19_far.l0 k b [] (F.map Prod.fst) (c : Int) gn l) v ∧ FarIs (edg l) a b v := by
    intro c F hB hd
    have hnone : ∀ d, ¬ Dist (edg l) a b d := by
      intro d hD
      have hD' := dist_back hD
      have h1 := (hB.done b d).2 hD'
      have h2 := ((hB.far b d).1 h1).2
      rcases Nat.lt_or_ge d c with h3 | h3
      · exact hd d h3 hD
      · obtain rfl : d = c := by omega
        exact absurd ((hB.wav b).2 hD') List.not_mem_nil
    refine ⟨-1, ⟨1, fun k hk => ?_⟩, fun d hD => absurd hD (hnone d), fun _ => rfl⟩
    obtain ⟨j, rfl⟩ : ∃ j, k = j + 1 := ⟨k - 1, by omega⟩
    simp [brickyardref19_far.l0]
  have hfound : ∀ (c : Nat) (F : List (ByteArray × Nat)) (wave : List ByteArray), Bfs (fun x y => edg l y x) a (c + 1) F wave → wave.length ≤ 1000000 → b ∈ wave → ∃ v, Ev (fun k => brickyardref19_far.l0 k b wave (F.map Prod.fst) (c : Int) gn l) v ∧ FarIs (edg l) a b v := by
    intro c F wave hB hwl hbw
    have hD : Dist (edg l) a b c := dist_back ((hB.wav b).1 hbw)
    obtain ⟨kh, hkh⟩ : ∃ kh, ∀ k, kh ≤ k → brickyardref19_has.f k wave b = some (Lib.containsS wave b) := has_ev (x0 := wave) hwl b
    have hpos : 0 < wave.length := List.length_pos_of_mem hbw
    refine ⟨(c : Int), ⟨kh + 1, fun k hk => ?_⟩, fun d hd => by rw [dist_unique hd hD], fun hn => absurd (reach_dist.2 ⟨c, hD⟩) hn⟩
    obtain ⟨j, rfl⟩ : ∃ j, k = j + 1 := ⟨k - 1, by omega⟩
    simp only [brickyardref19_far.l0]
    rw [if_pos (by omega), hkh j (by omega), contains_yes hbw]
    rfl
  induction m with
  | zero =>
    intro c F wave hm hB hn hl hd
    cases wave with
    | nil => exact hempty c F hB hd
    | cons y wave =>
      exfalso
      have hy := hcb c F _ hB (List.mem_cons_self ..)
      omega
  | succ m ih =>
    intro c F wave hm hB hn hl hd
    have hFl := hlen c F wave hB hn
    cases hw : wave with
    | nil => subst hw; exact hempty c F hB hd
    | cons y t =>
      rw [← hw]
      have hcc := hcb c F wave (y := y) hB (by rw [hw]; exact List.mem_cons_self ..)
      by_cases hbw : b ∈ wave
      · exact hfound c F wave hB (by omega) hbw
      · have hpos : 0 < wave.length := by rw [hw]; simp
        obtain ⟨kh, hkh⟩ : ∃ kh, ∀ k, kh ≤ k → brickyardref19_has.f k wave b = some (Lib.containsS wave b) := has_ev (x0 := wave) (by omega) b
        have hd' : ∀ d, d < c + 1 → ¬ Dist (edg l) a b d := by
          intro d h1 hD
          by_cases e : d = c
          · subst e
            exact hbw ((hB.wav b).2 (dist_back hD))
          · exact hd d (by omega) hD
        obtain ⟨v, hv, hs⟩ := far_l1 hb gn (a := a) (b := b) (c := c) (F0 := F) (wave := wave) (by omega) (by omega) (fun F' next' hB' hn' hl' => ih (c + 1) F' next' (by omega) hB' hn' hl' hd') wave.length 0 (by omega) (by omega) F [] (hB.mid.congr fun x y => by simp) hn (by simp)
        refine ⟨v, hv.step ⟨kh, fun k hk => ?_⟩, hs⟩
        simp only [brickyardref19_far.l0]
        rw [if_pos (by omega), hkh k hk, contains_no hbw]
        rfl
theorem far_ev (gn : List ByteArray) : ∃ v, Ev (fun k => brickyardref19_far.f k gn l a b) v ∧ FarIs (edg l) a b v := by
  obtain ⟨v, hv, hs⟩ := far_l0 hb gn (a := a) (b := b) (2 * l.length + 2) 0 [(a, 0)] [a] (by omega) bfs_start (List.nodup_cons.2 ⟨List.not_mem_nil, List.nodup_nil⟩) (by simp) (fun d hd => by omega)
  exact ⟨v, hv, hs⟩
end
end Go.Proofs.Ytlccejbomgknkaa
namespace Go.Proofs.Ytlccejbomgknkaa.PGraphFinds
open Go.RowKit Go.Proofs.YtlccejbomgknkaaW.PrintWords Go.Proofs.YtlccejbomgknkaaW.PrintLast Go.Proofs.YtlccejbomgknkaaW.PrintMore
set_option linter.unusedVariables false
set_option linter.unusedSimpArgs false
mutual
def brickyardref19_Way.j0 : Nat → ByteArray → ByteArray → Bool → List ByteArray → List (S45) → Option (List ByteArray × Bool)
  | 0, _, _, _, _, _ => none
  | k + 1, x1, x2, x30, x341000, x341001 => if x30 = true then (some (([] : List ByteArray), false)) else (brickyardref19_Way.l0 k x1 x2 (([x1] : List ByteArray)) x341000 x341001)
def brickyardref19_Way.l0 : Nat → ByteArray → ByteArray → List ByteArray → List ByteArray → List (S45) → Option (List ByteArray × Bool)
  | 0, _, _, _, _, _ => none
  | k + 1, x1, x2, x8, x341000, x341001 => if x1.toList = x2.toList then (some (x8, true)) else ((brickyardref19_far.f k x341000 x341001 x1 x2).bind fun t347 => ((brickyardref19_Out.f k x341000 x341001 x1).bind fun t348 => (brickyardref19_Way.l1 k x1 x2 x8 t347 t348 0 x341000 x341001)))
def brickyardref19_Way.l1 : Nat → ByteArray → ByteArray → List ByteArray → Int → List ByteArray → Int → List ByteArray → List (S45) → Option (List ByteArray × Bool)
  | 0, _, _, _, _, _, _, _, _ => none
  | k + 1, x1, x2, x8, x9, x10, x11, x341000, x341001 => if x11 < (x10.length : Int) then (if 0 ≤ x11 then ((brickyardref19_far.f k x341000 x341001 (rdOf ByteArray.empty x10 x11) x2).bind fun t352 => (if t352 = (wrap64 (x9 - 1)) then (if x8.length < 8796093022208 then (brickyardref19_Way.l0 k (rdOf ByteArray.empty x10 x11) x2 (x8 ++ [rdOf ByteArray.empty x10 x11]) x341000 x341001) else (none)) else (brickyardref19_Way.l1 k x1 x2 x8 x9 x10 (wrap64 (x11 + 1)) x341000 x341001))) else (none)) else (if x8.length < 8796093022208 then (brickyardref19_Way.l0 k x1 x2 (x8 ++ [x1]) x341000 x341001) else (none))
end
def brickyardref19_Way.f (k : Nat) (l0_0 : List ByteArray) (l0_1 : List (S45)) (a1 : ByteArray) (a2 : ByteArray) : Option (List ByteArray × Bool) := (brickyardref19_has.f k l0_0 a1).bind fun t341 => (if t341 = true then ((brickyardref19_has.f k l0_0 a2).bind fun t342 => (if t342 = true then ((brickyardref19_far.f k l0_0 l0_1 a1 a2).bind fun t343 => (brickyardref19_Way.j0 k a1 a2 (decide (t343 < 0)) l0_0 l0_1)) else (brickyardref19_Way.j0 k a1 a2 true l0_0 l0_1))) else (brickyardref19_Way.j0 k a1 a2 true l0_0 l0_1))
theorem brickyardref19_Way.mono_l : ∀ k, (∀ y0 y1 y2 y3 y4, LeO (brickyardref19_Way.j0 k y0 y1 y2 y3 y4) (brickyardref19_Way.j0 (k + 1) y0 y1 y2 y3 y4)) ∧ (∀ y0 y1 y2 y3 y4, LeO (brickyardref19_Way.l0 k y0 y1 y2 y3 y4) (brickyardref19_Way.l0 (k + 1) y0 y1 y2 y3 y4)) ∧ (∀ y0 y1 y2 y3 y4 y5 y6 y7, LeO (brickyardref19_Way.l1 k y0 y1 y2 y3 y4 y5 y6 y7) (brickyardref19_Way.l1 (k + 1) y0 y1 y2 y3 y4 y5 y6 y7))
  | 0 => ⟨fun _ _ _ _ _ r h => by simp [brickyardref19_Way.j0] at h, fun _ _ _ _ _ r h => by simp [brickyardref19_Way.l0] at h, fun _ _ _ _ _ _ _ _ r h => by simp [brickyardref19_Way.l1] at h⟩
  | k + 1 => by
    obtain ⟨ih0, ih1, ih2⟩ := brickyardref19_Way.mono_l k
    refine ⟨?_, ?_, ?_⟩
    · intro y0 y1 y2 y3 y4
      unfold brickyardref19_Way.j0
      repeat' first
      | (with_reducible exact ih0 _ _ _ _ _)
      | (with_reducible exact ih1 _ _ _ _ _)
      | (with_reducible exact ih2 _ _ _ _ _ _ _ _)
      | (with_reducible exact brickyardref19_Out.mono _ _ _ _)
      | (with_reducible exact brickyardref19_far.mono _ _ _ _ _)
      | (with_reducible exact brickyardref19_has.mono _ _ _)
      | (with_reducible exact LeO.refl _)
      | (with_reducible exact LeO.none _)
      | (with_reducible refine LeO.ite ?_ ?_)
      | (with_reducible refine LeO.bind ?_ (fun _ => ?_))
      | exact ih0 _ _ _ _ _
      | exact ih1 _ _ _ _ _
      | exact ih2 _ _ _ _ _ _ _ _
      | exact brickyardref19_Out.mono _ _ _ _
      | exact brickyardref19_far.mono _ _ _ _ _
      | exact brickyardref19_has.mono _ _ _
      | exact LeO.none _
      | refine LeO.ite ?_ ?_
      | refine LeO.bind ?_ (fun _ => ?_)
    · intro y0 y1 y2 y3 y4
      unfold brickyardref19_Way.l0
      repeat' first
      | (with_reducible exact ih0 _ _ _ _ _)
      | (with_reducible exact ih1 _ _ _ _ _)
      | (with_reducible exact ih2 _ _ _ _ _ _ _ _)
      | (with_reducible exact brickyardref19_Out.mono _ _ _ _)
      | (with_reducible exact brickyardref19_far.mono _ _ _ _ _)
      | (with_reducible exact brickyardref19_has.mono _ _ _)
      | (with_reducible exact LeO.refl _)
      | (with_reducible exact LeO.none _)
      | (with_reducible refine LeO.ite ?_ ?_)
      | (with_reducible refine LeO.bind ?_ (fun _ => ?_))
      | exact ih0 _ _ _ _ _
      | exact ih1 _ _ _ _ _
      | exact ih2 _ _ _ _ _ _ _ _
      | exact brickyardref19_Out.mono _ _ _ _
      | exact brickyardref19_far.mono _ _ _ _ _
      | exact brickyardref19_has.mono _ _ _
      | exact LeO.none _
      | refine LeO.ite ?_ ?_
      | refine LeO.bind ?_ (fun _ => ?_)
    · intro y0 y1 y2 y3 y4 y5 y6 y7
      unfold brickyardref19_Way.l1
      repeat' first
      | (with_reducible exact ih0 _ _ _ _ _)
      | (with_reducible exact ih1 _ _ _ _ _)
      | (with_reducible exact ih2 _ _ _ _ _ _ _ _)
      | (with_reducible exact brickyardref19_Out.mono _ _ _ _)
      | (with_reducible exact brickyardref19_far.mono _ _ _ _ _)
      | (with_reducible exact brickyardref19_has.mono _ _ _)
      | (with_reducible exact LeO.refl _)
      | (with_reducible exact LeO.none _)
      | (with_reducible refine LeO.ite ?_ ?_)
      | (with_reducible refine LeO.bind ?_ (fun _ => ?_))
      | exact ih0 _ _ _ _ _
      | exact ih1 _ _ _ _ _
      | exact ih2 _ _ _ _ _ _ _ _
      | exact brickyardref19_Out.mono _ _ _ _
      | exact brickyardref19_far.mono _ _ _ _ _
      | exact brickyardref19_has.mono _ _ _
      | exact LeO.none _
      | refine LeO.ite ?_ ?_
      | refine LeO.bind ?_ (fun _ => ?_)
theorem brickyardref19_Way.mono : ∀ a0 a1 a2 a3 k, LeO (brickyardref19_Way.f k a0 a1 a2 a3) (brickyardref19_Way.f (k + 1) a0 a1 a2 a3) := by
  intro a0 a1 a2 a3 k
  obtain ⟨ih0, ih1, ih2⟩ := brickyardref19_Way.mono_l k
  unfold brickyardref19_Way.f
  repeat' first
      | (with_reducible exact ih0 _ _ _ _ _)
      | (with_reducible exact ih1 _ _ _ _ _)
      | (with_reducible exact ih2 _ _ _ _ _ _ _ _)
      | (with_reducible exact brickyardref19_Out.mono _ _ _ _)
      | (with_reducible exact brickyardref19_far.mono _ _ _ _ _)
      | (with_reducible exact brickyardref19_has.mono _ _ _)
      | (with_reducible exact LeO.refl _)
      | (with_reducible exact LeO.none _)
      | (with_reducible refine LeO.ite ?_ ?_)
      | (with_reducible refine LeO.bind ?_ (fun _ => ?_))
      | exact ih0 _ _ _ _ _
      | exact ih1 _ _ _ _ _
      | exact ih2 _ _ _ _ _ _ _ _
      | exact brickyardref19_Out.mono _ _ _ _
      | exact brickyardref19_far.mono _ _ _ _ _
      | exact brickyardref19_has.mono _ _ _
      | exact LeO.none _
      | refine LeO.ite ?_ ?_
      | refine LeO.bind ?_ (fun _ => ?_)
def brickyardref19_Way.T10 : Bool × List (List Nat × List Nat) := (true, [([], []), ([], []), ([], []), ([1, 2], [1, 2]), ([3], [3]), ([], []), ([0, 4, 5], [0, 4, 5]), ([], []), ([7], [7]), ([6, 8], [6, 8])])
def brickyardref19_Way.B10 : List Nat := [0, 0, 0, 6, 14, 0, 63, 0, 128, 511]
theorem brickyardref19_Way.tab10 : rtab .any (opsOf Try.f13 10) = brickyardref19_Way.T10 := by kernel_rfl
theorem brickyardref19_Way.bits10 : waitsOk brickyardref19_Way.T10.2 brickyardref19_Way.B10 = true := by kernel_rfl
set_option maxHeartbeats 8000000 in
set_option maxRecDepth 100000 in
theorem brickyardref19_Way.calls (k : Nat) (A0_0 : Option Addr) (c0_0 : Nat) (l0_0 : List ByteArray) (A0_1 : Option Addr) (c0_1 : Nat) (l0_1 : List (S45)) (a1 : ByteArray) (a2 : ByteArray) (r1 : List ByteArray) (r2 : Bool) (w : World) (hr0_0 : Kd.C Kd.string w A0_0 l0_0.length l0_0) (hc0_0 : l0_0.length ≤ c0_0) (hr0_1 : Kd.C k45 w A0_1 l0_1.length l0_1) (hc0_1 : l0_1.length ≤ c0_1) (h : brickyardref19_Way.f k l0_0 l0_1 a1 a2 = some (r1, r2)) :
    Calls Try.prog 13 #[.agg #[.slice A0_0 l0_0.length c0_0, .slice A0_1 l0_1.length c0_1], .string a1, .string a2] w fun e w' => ∃ v0_ : Value, e = .returned (.tuple #[v0_, .bool r2]) ∧ Kd.R Kd.string 9 w' w.heap.size (fun _ => True) v0_ r1 ∧ Below w.heap.size w w' := by
  have hu29 := Try.underlying29
  have HR0_0 := Aside0.mk hr0_0
  have HC0_0 := Aside0.mk hc0_0
  clear hr0_0 hc0_0
  have HR0_1 := Aside0.mk hr0_1
  have HC0_1 := Aside0.mk hc0_1
  clear hr0_1 hc0_1
  have HB := Aside0.mk (Below.refl w.heap.size w)
  have H : ((brickyardref19_has.f k l0_0 a1).bind fun t341 => (if t341 = true then ((brickyardref19_has.f k l0_0 a2).bind fun t342 => (if t342 = true then ((brickyardref19_far.f k l0_0 l0_1 a1 a2).bind fun t343 => (brickyardref19_Way.j0 k a1 a2 (decide (t343 < 0)) l0_0 l0_1)) else (brickyardref19_Way.j0 k a1 a2 true l0_0 l0_1))) else (brickyardref19_Way.j0 k a1 a2 true l0_0 l0_1))) = some (r1, r2) := h
  clear h
  have HC4 := Aside0.mk H
  clear H
  go_enter Try.func13, Try.ntmps13
  go_upto_region 1 with (first | ((with_reducible refine gate_dst (N := 3) rfl ?_); refine box_event ?hg (N := 3) ?hd (cs := #[.slice A0_0 l0_0.length c0_0, .slice A0_1 l0_1.length c0_1]) (t := 29) ?hr ?_; (case hd => rfl); (case hg => rfl); (case hr => first | (go_simp; done) | (go_simp; rfl)); intro gb340 hg w5 hbox hb; have n0_ := Aside0.mk (below_step (by repeat (first | (with_reducible first | exact HB.out | apply below_alloc | apply pw_below_drewN | apply below_drew1) | exact HB.out)) hb); have n1_ := Aside0.mk (hbox); have n2_ := Aside0.mk ((by rw [hg]; exact (below_size (by repeat (first | (with_reducible first | exact HB.out | apply below_alloc | apply pw_below_drewN | apply below_drew1) | exact HB.out))) : w.heap.size ≤ gb340)); have n3_ := Aside0.mk ((by rw [hg]; exact (below_size (by repeat (first | (with_reducible first | exact HB.out | apply below_alloc | apply pw_below_drewN | apply below_drew1) | exact HB.out))) : w.heap.size ≤ gb340)); clear HB; have HB := n0_; have BK340 := n1_; have GW340 := n2_; have GE340 := n3_; clear n0_ n1_ n2_ n3_; clear hb hbox hg))
  (try simp only [Act.put, List.setIfInBounds_toArray, List.set_cons_zero, List.set_cons_succ])
  go_cut [30] (fun v30 wc => ∃ (kq : Nat) (x30_3 : Bool), v30 = .bool x30_3 ∧ Aside0 (brickyardref19_Way.j0 kq a1 a2 x30_3 l0_0 l0_1 = some (r1, r2)) ∧ Aside0 (kq ≤ k) ∧ Aside0 (wc.heap[gb340]? = some (.cells #[(.slice A0_0 l0_0.length c0_0), (.slice A0_1 l0_1.length c0_1)] 29 (0, 0))) ∧ Aside0 (Below w.heap.size w wc))
  case first =>
    have H := HC4.out
    clear HC4
    replace H := Option.bind_eq_some_iff.mp H
    obtain ⟨t341, A60, H⟩ := H
    replace H : (if t341 = true then ((brickyardref19_has.f k l0_0 a2).bind fun t342 => (if t342 = true then ((brickyardref19_far.f k l0_0 l0_1 a1 a2).bind fun t343 => (brickyardref19_Way.j0 k a1 a2 (decide (t343 < 0)) l0_0 l0_1)) else (brickyardref19_Way.j0 k a1 a2 true l0_0 l0_1))) else (brickyardref19_Way.j0 k a1 a2 true l0_0 l0_1)) = some (r1, r2) := H
    have A6 := Aside0.mk A60
    clear A60
    by_cases c7 : t341 = true
    · subst c7
      have H1 : ((brickyardref19_has.f k l0_0 a2).bind fun t342 => (if t342 = true then ((brickyardref19_far.f k l0_0 l0_1 a1 a2).bind fun t343 => (brickyardref19_Way.j0 k a1 a2 (decide (t343 < 0)) l0_0 l0_1)) else (brickyardref19_Way.j0 k a1 a2 true l0_0 l0_1))) = some (r1, r2) := by rw [if_pos rfl] at H; exact H
      clear H
      have H := H1
      clear H1
      replace H := Option.bind_eq_some_iff.mp H
      obtain ⟨t342, A80, H⟩ := H
      replace H : (if t342 = true then ((brickyardref19_far.f k l0_0 l0_1 a1 a2).bind fun t343 => (brickyardref19_Way.j0 k a1 a2 (decide (t343 < 0)) l0_0 l0_1)) else (brickyardref19_Way.j0 k a1 a2 true l0_0 l0_1)) = some (r1, r2) := H
      have A8 := Aside0.mk A80
      clear A80
      by_cases c9 : t342 = true
      · subst c9
        have H1 : ((brickyardref19_far.f k l0_0 l0_1 a1 a2).bind fun t343 => (brickyardref19_Way.j0 k a1 a2 (decide (t343 < 0)) l0_0 l0_1)) = some (r1, r2) := by rw [if_pos rfl] at H; exact H
        clear H
        have H := H1
        clear H1
        replace H := Option.bind_eq_some_iff.mp H
        obtain ⟨t343, A100, H⟩ := H
        replace H : (brickyardref19_Way.j0 k a1 a2 (decide (t343 < 0)) l0_0 l0_1) = some (r1, r2) := H
        have A10 := Aside0.mk A100
        clear A100
        have H' := Aside0.mk H
        clear H
        have hcz11_0 : w5.cell? ⟨gb340, 0, none⟩ = some (.slice A0_0 l0_0.length c0_0) := (blk_cell BK340.out 0).trans rfl
        have hcz11_1 : w5.cell? ⟨gb340, 1, none⟩ = some (.slice A0_1 l0_1.length c0_1) := (blk_cell BK340.out 1).trans rfl
        have hfz11_0 := blk_frozen BK340.out 0
        have hfz11_1 := blk_frozen BK340.out 1
        go_wp2_with (first | ((with_reducible refine gate_callee (f := 41) rfl ?_); refine goesL_ (some 15) rfl rfl Try.func41 (by kernel_rfl) rfl #[.slice A0_0 l0_0.length c0_0, .string a1] rfl (by (try simp only [List.map_toArray, List.map_cons, List.map_nil]); first | done | rfl | (simp only [List.length_drop, List.length_take]; rfl)) ?_; (with_reducible refine (brickyardref19_has.calls k _ _ l0_0 a1 true _ ?side1 ?side2 A6.out).mono ?_); (case side1 => repeat (first | exact (Kd.C_below HR0_0.out HB.out) | (with_reducible refine Kd.C_alloc ?_ _) | (with_reducible refine Kd.C_drewN ?_ _) | (with_reducible refine Kd.C_drew ?_))); (case side2 => exact HC0_0.out); rintro e w' ⟨rfl, ⟨nd, rfl⟩⟩; refine ⟨_, rfl, ?_⟩) | (go_at_call 41; (with_reducible refine (brickyardref19_has.calls k _ _ l0_0 a2 true _ ?side1 ?side2 A8.out).mono ?_); (case side1 => repeat (first | exact (Kd.C_below HR0_0.out (by repeat (first | (with_reducible first | exact HB.out | apply below_alloc | apply pw_below_drewN | apply below_drew1 | refine below_set ?_ GE340.out) | exact HB.out))) | (with_reducible refine Kd.C_alloc ?_ _) | (with_reducible refine Kd.C_drewN ?_ _) | (with_reducible refine Kd.C_drew ?_))); (case side2 => exact HC0_0.out); rintro e w' ⟨rfl, ⟨nd, rfl⟩⟩) | (go_at_call 42; (with_reducible refine (brickyardref19_far.calls k _ _ l0_0 _ _ l0_1 a1 a2 t343 _ ?side1 ?side2 ?side3 ?side4 A10.out).mono ?_); (case side1 => repeat (first | exact (Kd.C_below HR0_0.out (by repeat (first | (with_reducible first | exact HB.out | apply below_alloc | apply pw_below_drewN | apply below_drew1 | refine below_set ?_ GE340.out) | exact HB.out))) | (with_reducible refine Kd.C_alloc ?_ _) | (with_reducible refine Kd.C_drewN ?_ _) | (with_reducible refine Kd.C_drew ?_))); (case side2 => exact HC0_0.out); (case side3 => repeat (first | exact (Kd.C_below HR0_1.out (by repeat (first | (with_reducible first | exact HB.out | apply below_alloc | apply pw_below_drewN | apply below_drew1 | refine below_set ?_ GE340.out) | exact HB.out))) | (with_reducible refine Kd.C_alloc ?_ _) | (with_reducible refine Kd.C_drewN ?_ _) | (with_reducible refine Kd.C_drew ?_))); (case side4 => exact HC0_1.out); rintro e w12 ⟨rfl, hb⟩; have n0_ := Aside0.mk (blk_below (g := gb340) (o := .cells #[.slice A0_0 l0_0.length c0_0, .slice A0_1 l0_1.length c0_1] 29 (0, 0)) (by (with_reducible repeat (first | refine blk_drewN ?_ _ | refine blk_drew ?_ | refine blk_alloc ?_ _)); exact BK340.out) hb); have n1_ := Aside0.mk (below_step (by repeat (first | (with_reducible first | exact HB.out | apply below_alloc | apply pw_below_drewN | apply below_drew1 | refine below_set ?_ GE340.out) | exact HB.out)) hb); clear BK340; clear HB; have BK340 := n0_; have HB := n1_; clear n0_ n1_; (try clear hb); (try clear hb2); (try clear hk); (try clear hi)))
        go_meet
        case rel => exact ⟨_, (decide (t343 < 0)), (by first | rfl | (simp; done) | (simp [*]; done)), H', ⟨by first | omega | exact Nat.le_refl _⟩, ⟨by (with_reducible repeat (first | refine blk_drewN ?_ _ | refine blk_drew ?_ | refine blk_alloc ?_ _)); exact BK340.out⟩, ⟨by repeat (first | (with_reducible first | exact HB.out | apply below_alloc | apply pw_below_drewN | apply below_drew1 | refine below_set ?_ GE340.out) | exact HB.out)⟩⟩
      · replace c9 := Bool.eq_false_iff.mpr c9
        subst c9
        have H1 : (brickyardref19_Way.j0 k a1 a2 true l0_0 l0_1) = some (r1, r2) := by rw [if_neg (show ¬ (false = true) by decide)] at H; exact H
        clear H
        have H := H1
        clear H1
        have H' := Aside0.mk H
        clear H
        have hcz13_0 : w5.cell? ⟨gb340, 0, none⟩ = some (.slice A0_0 l0_0.length c0_0) := (blk_cell BK340.out 0).trans rfl
        have hcz13_1 : w5.cell? ⟨gb340, 1, none⟩ = some (.slice A0_1 l0_1.length c0_1) := (blk_cell BK340.out 1).trans rfl
        have hfz13_0 := blk_frozen BK340.out 0
        have hfz13_1 := blk_frozen BK340.out 1
        go_wp2_with (first | ((with_reducible refine gate_callee (f := 41) rfl ?_); refine goesL_ (some 15) rfl rfl Try.func41 (by kernel_rfl) rfl #[.slice A0_0 l0_0.length c0_0, .string a1] rfl (by (try simp only [List.map_toArray, List.map_cons, List.map_nil]); first | done | rfl | (simp only [List.length_drop, List.length_take]; rfl)) ?_; (with_reducible refine (brickyardref19_has.calls k _ _ l0_0 a1 true _ ?side1 ?side2 A6.out).mono ?_); (case side1 => repeat (first | exact (Kd.C_below HR0_0.out HB.out) | (with_reducible refine Kd.C_alloc ?_ _) | (with_reducible refine Kd.C_drewN ?_ _) | (with_reducible refine Kd.C_drew ?_))); (case side2 => exact HC0_0.out); rintro e w' ⟨rfl, ⟨nd, rfl⟩⟩; refine ⟨_, rfl, ?_⟩) | (go_at_call 41; (with_reducible refine (brickyardref19_has.calls k _ _ l0_0 a2 false _ ?side1 ?side2 A8.out).mono ?_); (case side1 => repeat (first | exact (Kd.C_below HR0_0.out (by repeat (first | (with_reducible first | exact HB.out | apply below_alloc | apply pw_below_drewN | apply below_drew1 | refine below_set ?_ GE340.out) | exact HB.out))) | (with_reducible refine Kd.C_alloc ?_ _) | (with_reducible refine Kd.C_drewN ?_ _) | (with_reducible refine Kd.C_drew ?_))); (case side2 => exact HC0_0.out); rintro e w' ⟨rfl, ⟨nd, rfl⟩⟩))
        go_meet
        case rel => exact ⟨_, (true), (by first | rfl | (simp; done) | (simp [*]; done)), H', ⟨by first | omega | exact Nat.le_refl _⟩, ⟨by (with_reducible repeat (first | refine blk_drewN ?_ _ | refine blk_drew ?_ | refine blk_alloc ?_ _)); exact BK340.out⟩, ⟨by repeat (first | (with_reducible first | exact HB.out | apply below_alloc | apply pw_below_drewN | apply below_drew1 | refine below_set ?_ GE340.out) | exact HB.out)⟩⟩
    · replace c7 := Bool.eq_false_iff.mpr c7
      subst c7
      have H1 : (brickyardref19_Way.j0 k a1 a2 true l0_0 l0_1) = some (r1, r2) := by rw [if_neg (show ¬ (false = true) by decide)] at H; exact H
      clear H
      have H := H1
      clear H1
      have H' := Aside0.mk H
      clear H
      have hcz14_0 : w5.cell? ⟨gb340, 0, none⟩ = some (.slice A0_0 l0_0.length c0_0) := (blk_cell BK340.out 0).trans rfl
      have hcz14_1 : w5.cell? ⟨gb340, 1, none⟩ = some (.slice A0_1 l0_1.length c0_1) := (blk_cell BK340.out 1).trans rfl
      have hfz14_0 := blk_frozen BK340.out 0
      have hfz14_1 := blk_frozen BK340.out 1
      go_wp2_with (first | ((with_reducible refine gate_callee (f := 41) rfl ?_); refine goesL_ (some 15) rfl rfl Try.func41 (by kernel_rfl) rfl #[.slice A0_0 l0_0.length c0_0, .string a1] rfl (by (try simp only [List.map_toArray, List.map_cons, List.map_nil]); first | done | rfl | (simp only [List.length_drop, List.length_take]; rfl)) ?_; (with_reducible refine (brickyardref19_has.calls k _ _ l0_0 a1 false _ ?side1 ?side2 A6.out).mono ?_); (case side1 => repeat (first | exact (Kd.C_below HR0_0.out HB.out) | (with_reducible refine Kd.C_alloc ?_ _) | (with_reducible refine Kd.C_drewN ?_ _) | (with_reducible refine Kd.C_drew ?_))); (case side2 => exact HC0_0.out); rintro e w' ⟨rfl, ⟨nd, rfl⟩⟩; refine ⟨_, rfl, ?_⟩))
      go_meet
      case rel => exact ⟨_, (true), (by first | rfl | (simp; done) | (simp [*]; done)), H', ⟨by first | omega | exact Nat.le_refl _⟩, ⟨by (with_reducible repeat (first | refine blk_drewN ?_ _ | refine blk_drew ?_ | refine blk_alloc ?_ _)); exact BK340.out⟩, ⟨by repeat (first | (with_reducible first | exact HB.out | apply below_alloc | apply pw_below_drewN | apply below_drew1 | refine below_set ?_ GE340.out) | exact HB.out)⟩⟩
  case rest =>
    clear HC4
    try clear c1
    try clear p2
    try clear c4
    try clear c7
    try clear c9
    try clear c13
    try clear hcz11_0
    try clear hcz11_1
    try clear hcz13_0
    try clear hcz13_1
    try clear hcz14_0
    try clear hcz14_1
    try clear hfz11_0
    try clear hfz11_1
    try clear hfz13_0
    try clear hfz13_1
    try clear hfz14_0
    try clear hfz14_1
    obtain ⟨kq, x30_3, rfl, HA, HJ3, BK340, HB⟩ := hcut
    cases kq with
    | zero => exact absurd HA.out (by simp [brickyardref19_Way.j0])
    | succ kj3 =>
      have H := HA.out
      clear HA
      simp only [brickyardref19_Way.j0] at H
      by_cases c15 : x30_3 = true
      · subst c15
        have H1 : (some (([] : List ByteArray), false)) = some (r1, r2) := by rw [if_pos rfl] at H; exact H
        clear H
        have H := H1
        clear H1
        simp only [Option.some.injEq, Prod.mk.injEq] at H
        obtain ⟨rfl, rfl⟩ := H
        go_wp2
        go_ret2
        exact ⟨_, by first | rfl | (simp [errW_none, errW_some] <;> rfl) | (simp [*, errW_none, errW_some] <;> rfl), by first | exact Kd.R_nil _ _ _ _ _ | exact Kd.N_nil _ _ _ _ _ | exact Kd.V_nil _ _ _ _ _ | exact Kd.Q_nil _ _ _ _ _ | exact Kd.S_nil _ _ _ _ _, by repeat (first | (with_reducible first | exact HB.out | apply below_alloc | apply pw_below_drewN | apply below_drew1 | refine below_set ?_ GE340.out) | exact HB.out)⟩
      · replace c15 := Bool.eq_false_iff.mpr c15
        subst c15
        have H1 : (brickyardref19_Way.l0 kj3 a1 a2 (([a1] : List ByteArray)) l0_0 l0_1) = some (r1, r2) := by rw [if_neg (show ¬ (false = true) by decide)] at H; exact H
        clear H
        have H := H1
        clear H1
        obtain ⟨y344, hy344⟩ : ∃ y_ : List ByteArray, y_ = (([a1] : List ByteArray)) := ⟨_, rfl⟩
        replace H : (brickyardref19_Way.l0 kj3 a1 a2 y344 l0_0 l0_1) = some (r1, r2) := by first | (rw [hy344]; with_reducible exact H) | (have H2_ := (Option.bind_some _ _).symm.trans H; rw [hy344]; with_reducible exact H2_) | (have H2_ := (Option.bind_some _ _).symm.trans H; with_reducible exact H2_) | with_reducible exact H | (rw [hy344]; exact H) | exact H
        have Ny344 := Aside0.mk hy344
        clear hy344
        have H' := Aside0.mk H
        clear H
        go_wp2_with (first | ((with_reducible refine gate_dst (N := 32) rfl ?_); refine Kd.R_lit Kd.string _ 9 ?hg (N := 32) ?hd (xs := ([a1] : List ByteArray)) (inner := [.string a1]) (ok := fun _ => True) (okp := fun _ => True) ?hr ?hp (fun _ hk => hk) trivial (Below.refl _ _) (Nat.le_refl _) (by simp) ?_; (case hd => rfl); (case hg => rfl); (case hr => first | (go_simp; done) | (go_simp; rfl)); (case hp => exact (Reps.one (show Kd.M Kd.string _ _ _ a1 [.string a1] from rfl) (Reps.none _ _))); intro v345 w16 ho17 hb hg_ hnew_; clear hg_ hnew_; (first | rw [← Ny344.out] at ho17 | (simp only [Int.reduceToNat] at ho17; rw [← Ny344.out] at ho17)); have n0_ := Aside0.mk (Kd.R_lower ho17 (below_size (by repeat (first | (with_reducible first | exact HB.out | apply below_alloc | apply pw_below_drewN | apply below_drew1 | refine below_set ?_ GE340.out) | exact HB.out)))); have n1_ := Aside0.mk (blk_below (g := gb340) (o := .cells #[.slice A0_0 l0_0.length c0_0, .slice A0_1 l0_1.length c0_1] 29 (0, 0)) (by (with_reducible repeat (first | refine blk_drewN ?_ _ | refine blk_drew ?_ | refine blk_alloc ?_ _)); exact BK340.out) hb); have n2_ := Aside0.mk (below_step (by repeat (first | (with_reducible first | exact HB.out | apply below_alloc | apply pw_below_drewN | apply below_drew1 | refine below_set ?_ GE340.out) | exact HB.out)) hb); clear BK340; clear HB; have HO346 := n0_; have BK340 := n1_; have HB := n2_; clear n0_ n1_ n2_; clear hb ho17))
        go_loopg [1, 8] kj3 (fun kq v1 v8 w' => ∃ (x1_2 : ByteArray) (x8_2 : List ByteArray), v1 = .string x1_2 ∧ Aside0 (brickyardref19_Way.l0 kq x1_2 a2 x8_2 l0_0 l0_1 = some (r1, r2)) ∧ Aside0 (kq ≤ kj3) ∧ Aside0 (Kd.R Kd.string 9 w' w.heap.size (fun _ => True) v8 x8_2) ∧ Aside0 (w'.heap[gb340]? = some (.cells #[(.slice A0_0 l0_0.length c0_0), (.slice A0_1 l0_1.length c0_1)] 29 (0, 0))) ∧ Aside0 (Below w.heap.size w w'))
        case atStart => exact ⟨(a1), (y344), (by first | rfl | (simp; done) | (simp [*]; done)), H', ⟨Nat.le_refl _⟩, ⟨by (with_reducible repeat (first | apply Kd.R_alloc | apply Kd.R_drewN | apply Kd.R_drew)); exact HO346.out⟩, ⟨by (with_reducible repeat (first | refine blk_drewN ?_ _ | refine blk_drew ?_ | refine blk_alloc ?_ _)); exact BK340.out⟩, ⟨by repeat (first | (with_reducible first | exact HB.out | apply below_alloc | apply pw_below_drewN | apply below_drew1 | refine below_set ?_ GE340.out) | exact HB.out)⟩⟩
        case round =>
          clear H'
          try clear c1
          try clear p2
          try clear c4
          try clear c7
          try clear c9
          try clear c13
          try clear c15
          try clear hcz11_0
          try clear hcz11_1
          try clear hcz13_0
          try clear hcz13_1
          try clear hcz14_0
          try clear hcz14_1
          try clear hfz11_0
          try clear hfz11_1
          try clear hfz13_0
          try clear hfz13_1
          try clear hfz14_0
          try clear hfz14_1
          try clear p2
          obtain ⟨x1_2, x8_2, rfl, HA, HK2, HO_8, BK340, HB⟩ := hrel
          cases gk with
          | zero => exact absurd HA.out (by simp [brickyardref19_Way.l0])
          | succ k2 =>
            have H := HA.out
            clear HA
            simp only [brickyardref19_Way.l0] at H
            by_cases c18 : x1_2.toList = a2.toList
            · rw [if_pos c18] at H
              have c18b0 : (x1_2.toList == a2.toList) = true := beq_iff_eq.mpr c18
              have c18b1 : (x1_2.toList != a2.toList) = false := bne_eq_false_iff_eq.mpr c18
              clear c18
              simp only [Option.some.injEq, Prod.mk.injEq] at H
              obtain ⟨rfl, rfl⟩ := H
              go_wp2
              go_ret2
              exact ⟨_, by first | rfl | (simp [errW_none, errW_some] <;> rfl) | (simp [*, errW_none, errW_some] <;> rfl), by (with_reducible repeat (first | apply Kd.R_alloc | apply Kd.R_drewN | apply Kd.R_drew)); exact HO_8.out, by repeat (first | (with_reducible first | exact HB.out | apply below_alloc | apply pw_below_drewN | apply below_drew1 | refine below_set ?_ GE340.out) | exact HB.out)⟩
            · rw [if_neg c18] at H
              have c18b0 : (x1_2.toList == a2.toList) = false := beq_eq_false_iff_ne.mpr c18
              have c18b1 : (x1_2.toList != a2.toList) = true := bne_iff_ne.mpr c18
              replace H := Option.bind_eq_some_iff.mp H
              obtain ⟨t347, A190, H⟩ := H
              replace H : ((brickyardref19_Out.f k2 l0_0 l0_1 x1_2).bind fun t348 => (brickyardref19_Way.l1 k2 x1_2 a2 x8_2 t347 t348 0 l0_0 l0_1)) = some (r1, r2) := H
              have A19 := Aside0.mk A190
              clear A190
              replace H := Option.bind_eq_some_iff.mp H
              obtain ⟨t348, A200, H⟩ := H
              replace H : (brickyardref19_Way.l1 k2 x1_2 a2 x8_2 t347 t348 0 l0_0 l0_1) = some (r1, r2) := H
              have A20 := Aside0.mk A200
              clear A200
              have H' := Aside0.mk H
              clear H
              have hcz21_0 : wr.cell? ⟨gb340, 0, none⟩ = some (.slice A0_0 l0_0.length c0_0) := (blk_cell BK340.out 0).trans rfl
              have hcz21_1 : wr.cell? ⟨gb340, 1, none⟩ = some (.slice A0_1 l0_1.length c0_1) := (blk_cell BK340.out 1).trans rfl
              have hfz21_0 := blk_frozen BK340.out 0
              have hfz21_1 := blk_frozen BK340.out 1
              go_wp2_with (first | ((with_reducible refine gate_callee (f := 42) rfl ?_); refine goesL_ (some 39) rfl rfl Try.func42 (by kernel_rfl) rfl #[.agg #[.slice A0_0 l0_0.length c0_0, .slice A0_1 l0_1.length c0_1], .string x1_2, .string a2] rfl (by (try simp only [List.map_toArray, List.map_cons, List.map_nil]); first | done | rfl | (simp only [List.length_drop, List.length_take]; rfl)) ?_; (with_reducible refine (brickyardref19_far.calls k2 _ _ l0_0 _ _ l0_1 x1_2 a2 t347 _ ?side1 ?side2 ?side3 ?side4 A19.out).mono ?_); (case side1 => repeat (first | exact (Kd.C_below HR0_0.out HB.out) | (with_reducible refine Kd.C_alloc ?_ _) | (with_reducible refine Kd.C_drewN ?_ _) | (with_reducible refine Kd.C_drew ?_))); (case side2 => exact HC0_0.out); (case side3 => repeat (first | exact (Kd.C_below HR0_1.out HB.out) | (with_reducible refine Kd.C_alloc ?_ _) | (with_reducible refine Kd.C_drewN ?_ _) | (with_reducible refine Kd.C_drew ?_))); (case side4 => exact HC0_1.out); rintro e w22 ⟨rfl, hb⟩; refine ⟨_, rfl, ?_⟩; have n0_ := Aside0.mk (Kd.R_below (by (with_reducible repeat (first | apply Kd.R_alloc | apply Kd.R_drewN | apply Kd.R_drew)); exact HO_8.out) hb); have n1_ := Aside0.mk (blk_below (g := gb340) (o := .cells #[.slice A0_0 l0_0.length c0_0, .slice A0_1 l0_1.length c0_1] 29 (0, 0)) (by (with_reducible repeat (first | refine blk_drewN ?_ _ | refine blk_drew ?_ | refine blk_alloc ?_ _)); exact BK340.out) hb); have n2_ := Aside0.mk (below_step (by repeat (first | (with_reducible first | exact HB.out | apply below_alloc | apply pw_below_drewN | apply below_drew1 | refine below_set ?_ GE340.out) | exact HB.out)) hb); clear HO_8; clear BK340; clear HB; have HO_8 := n0_; have BK340 := n1_; have HB := n2_; clear n0_ n1_ n2_; (try clear hb); (try clear hb2); (try clear hk); (try clear hi); have hcz23_0 : w22.cell? ⟨gb340, 0, none⟩ = some (.slice A0_0 l0_0.length c0_0) := (blk_cell BK340.out 0).trans rfl; have hcz23_1 : w22.cell? ⟨gb340, 1, none⟩ = some (.slice A0_1 l0_1.length c0_1) := (blk_cell BK340.out 1).trans rfl; have hfz23_0 := blk_frozen BK340.out 0; have hfz23_1 := blk_frozen BK340.out 1) | ((with_reducible refine gate_callee (f := 28) rfl ?_); refine goesL_ (some 42) rfl rfl Try.func28 (by kernel_rfl) rfl #[.agg #[.slice A0_0 l0_0.length c0_0, .slice A0_1 l0_1.length c0_1], .string x1_2] rfl (by (try simp only [List.map_toArray, List.map_cons, List.map_nil]); first | done | rfl | (simp only [List.length_drop, List.length_take]; rfl)) ?_; (with_reducible refine (brickyardref19_Out.calls k2 _ _ l0_0 _ _ l0_1 x1_2 t348 _ ?side1 ?side2 ?side3 ?side4 A20.out).mono ?_); (case side1 => repeat (first | exact (Kd.C_below HR0_0.out HB.out) | (with_reducible refine Kd.C_alloc ?_ _) | (with_reducible refine Kd.C_drewN ?_ _) | (with_reducible refine Kd.C_drew ?_))); (case side2 => exact HC0_0.out); (case side3 => repeat (first | exact (Kd.C_below HR0_1.out HB.out) | (with_reducible refine Kd.C_alloc ?_ _) | (with_reducible refine Kd.C_drewN ?_ _) | (with_reducible refine Kd.C_drew ?_))); (case side4 => exact HC0_1.out); rintro e w24 ⟨v349, rfl, ho0, hb⟩; refine ⟨_, rfl, ?_⟩; have n0_ := Aside0.mk (Kd.R_elder' (by (with_reducible repeat (first | apply Kd.R_alloc | apply Kd.R_drewN | apply Kd.R_drew)); exact HO_8.out) (Kd.R_base ho0) hb); have n1_ := Aside0.mk (Kd.R_lower (Kd.R_new' ho0 (Kd.R_lt (by (with_reducible repeat (first | apply Kd.R_alloc | apply Kd.R_drewN | apply Kd.R_drew)); exact HO_8.out))) (below_size (by repeat (first | (with_reducible first | exact HB.out | apply below_alloc | apply pw_below_drewN | apply below_drew1 | refine below_set ?_ GE340.out) | exact HB.out)))); have n2_ := Aside0.mk (blk_below (g := gb340) (o := .cells #[.slice A0_0 l0_0.length c0_0, .slice A0_1 l0_1.length c0_1] 29 (0, 0)) (by (with_reducible repeat (first | refine blk_drewN ?_ _ | refine blk_drew ?_ | refine blk_alloc ?_ _)); exact BK340.out) hb); have n3_ := Aside0.mk (below_step (by repeat (first | (with_reducible first | exact HB.out | apply below_alloc | apply pw_below_drewN | apply below_drew1 | refine below_set ?_ GE340.out) | exact HB.out)) hb); clear HO_8; clear BK340; clear HB; have HO_8 := n0_; have HO350 := n1_; have BK340 := n2_; have HB := n3_; clear n0_ n1_ n2_ n3_; (try clear hb); (try clear hb2); (try clear hk); (try clear hi); (try clear ho0)))
              go_loopg [1, 11] k2 (fun kq v1 v11 w' => ∃ (x1_3 : ByteArray) (x11_3 : Int), v1 = .string x1_3 ∧ v11 = .int .i64 x11_3 ∧ Aside0 (brickyardref19_Way.l1 kq x1_3 a2 x8_2 t347 t348 x11_3 l0_0 l0_1 = some (r1, r2)) ∧ Aside0 (kq ≤ k2) ∧ Aside0 (Kd.R Kd.string 9 w' w.heap.size (fun k_ => some k_ ≠ (v349 : Value).ownBlock) u8 x8_2) ∧ Aside0 (Kd.R Kd.string 9 w' w.heap.size (fun k_ => some k_ ≠ (u8 : Value).ownBlock) v349 t348) ∧ Aside0 (w'.heap[gb340]? = some (.cells #[(.slice A0_0 l0_0.length c0_0), (.slice A0_1 l0_1.length c0_1)] 29 (0, 0))) ∧ Aside0 (Below w.heap.size w w'))
              case atStart => exact ⟨(x1_2), (0), (by first | rfl | (simp; done) | (simp [*]; done)), (by first | rfl | (simp; done) | (simp [*]; done)), H', ⟨Nat.le_refl _⟩, ⟨by (with_reducible repeat (first | apply Kd.R_alloc | apply Kd.R_drewN | apply Kd.R_drew)); exact Kd.R_mono HO_8.out (fun _ hk => hk.2)⟩, ⟨by (with_reducible repeat (first | apply Kd.R_alloc | apply Kd.R_drewN | apply Kd.R_drew)); exact Kd.R_mono HO350.out (fun _ hk => hk.2)⟩, ⟨by (with_reducible repeat (first | refine blk_drewN ?_ _ | refine blk_drew ?_ | refine blk_alloc ?_ _)); exact BK340.out⟩, ⟨by repeat (first | (with_reducible first | exact HB.out | apply below_alloc | apply pw_below_drewN | apply below_drew1 | refine below_set ?_ GE340.out) | exact HB.out)⟩⟩
              case round =>
                clear H'
                try clear c1
                try clear c2
                try clear p2
                try clear c4
                try clear c7
                try clear c9
                try clear c13
                try clear c15
                try clear c18
                try clear c18b0
                try clear c18b1
                try clear hcz11_0
                try clear hcz11_1
                try clear hcz13_0
                try clear hcz13_1
                try clear hcz14_0
                try clear hcz14_1
                try clear hcz21_0
                try clear hcz21_1
                try clear hcz23_0
                try clear hcz23_1
                try clear hfz11_0
                try clear hfz11_1
                try clear hfz13_0
                try clear hfz13_1
                try clear hfz14_0
                try clear hfz14_1
                try clear hfz21_0
                try clear hfz21_1
                try clear hfz23_0
                try clear hfz23_1
                try clear p2
                obtain ⟨x1_3, x11_3, rfl, rfl, HA, HK3, HO_8, HO_10, BK340, HB⟩ := hrel
                cases gk with
                | zero => exact absurd HA.out (by simp [brickyardref19_Way.l1])
                | succ k3 =>
                  have H := HA.out
                  clear HA
                  simp only [brickyardref19_Way.l1] at H
                  by_cases c25 : x11_3 < (t348.length : Int)
                  · rw [if_pos c25] at H
                    have c25b0 : decide (x11_3 < (t348.length : Int)) = true := decide_eq_true c25
                    clear c25
                    by_cases c26 : 0 ≤ x11_3
                    · rw [if_pos c26] at H
                      have c26b0 : decide (0 ≤ x11_3) = true := decide_eq_true c26
                      clear c26
                      replace H := Option.bind_eq_some_iff.mp H
                      obtain ⟨t352, A270, H⟩ := H
                      replace H : (if t352 = (wrap64 (t347 - 1)) then (if x8_2.length < 8796093022208 then (brickyardref19_Way.l0 k3 (rdOf ByteArray.empty t348 x11_3) a2 (x8_2 ++ [rdOf ByteArray.empty t348 x11_3]) l0_0 l0_1) else (none)) else (brickyardref19_Way.l1 k3 x1_3 a2 x8_2 t347 t348 (wrap64 (x11_3 + 1)) l0_0 l0_1)) = some (r1, r2) := H
                      have A27 := Aside0.mk A270
                      clear A270
                      by_cases c28 : t352 = (wrap64 (t347 - 1))
                      · rw [if_pos c28] at H
                        have c28b0 : (t352 == (wrap64 (t347 - 1))) = true := beq_iff_eq.mpr c28
                        have c28b1 : (t352 != (wrap64 (t347 - 1))) = false := bne_eq_false_iff_eq.mpr c28
                        clear c28
                        by_cases c29 : x8_2.length < 8796093022208
                        · rw [if_pos c29] at H
                          have LMc29 := Aside0.mk c29
                          clear c29
                          obtain ⟨y354, hy354⟩ : ∃ y_ : List ByteArray, y_ = (x8_2 ++ [rdOf ByteArray.empty t348 x11_3]) := ⟨_, rfl⟩
                          replace H : (brickyardref19_Way.l0 k3 (rdOf ByteArray.empty t348 x11_3) a2 y354 l0_0 l0_1) = some (r1, r2) := by first | (rw [hy354]; with_reducible exact H) | (have H2_ := (Option.bind_some _ _).symm.trans H; rw [hy354]; with_reducible exact H2_) | (have H2_ := (Option.bind_some _ _).symm.trans H; with_reducible exact H2_) | with_reducible exact H | (rw [hy354]; exact H) | exact H
                          have Ny354 := Aside0.mk hy354
                          clear hy354
                          have H' := Aside0.mk H
                          clear H
                          obtain ⟨Ao30, co30, eo30⟩ := Kd.R_slice HO_10.out
                          subst eo30
                          try go_wp2
                          have n0_ := Aside0.mk (Kd.R_drew HO_8.out)
                          have n1_ := Aside0.mk (Kd.R_drew HO_10.out)
                          have n2_ := Aside0.mk (blk_drew BK340.out)
                          have n3_ := Aside0.mk (below_drew1 HB.out)
                          clear HO_8
                          clear HO_10
                          clear BK340
                          clear HB
                          have HO_8 := n0_
                          have HO_10 := n1_
                          have BK340 := n2_
                          have HB := n3_
                          clear n0_ n1_ n2_ n3_
                          have p351 : 0 ≤ (x11_3 : Int) := of_decide_eq_true (by first | (with_reducible assumption) | assumption)
                          have q351 : x11_3 < (t348.length : Int) := of_decide_eq_true (by first | (with_reducible assumption) | assumption)
                          obtain ⟨ad351, e351, hx351_0⟩ := Kd.at_string (Kd.R_reads' HO_10.out).2.2 x11_3 p351 q351
                          cases e351
                          replace p351 := eq_true p351
                          replace q351 := eq_true q351
                          refine start_ (n := 10) (S := fun w' => w'.cell? ⟨gb340, 0, none⟩ = some (.slice A0_0 l0_0.length c0_0) ∧ w'.cell? ⟨gb340, 1, none⟩ = some (.slice A0_1 l0_1.length c0_1) ∧ w'.cell? (ad351.add (x11_3).toNat) = some (.string (rdOf ByteArray.empty t348 x11_3))) (ds := []) #[false, false, false, false, false, false, false, false, false, false] (by kernel_rfl) rfl rfl ⟨(blk_cell BK340.out 0).trans rfl, (blk_cell BK340.out 1).trans rfl, hx351_0⟩ (fun hHeld => ?_); refine with_tabW brickyardref19_Way.tab10 brickyardref19_Way.bits10 (fun HT_ HW_ => ?_)
                          generalize wr.drew = w31 at HO_8 HO_10 BK340 HB hx351_0 hHeld ⊢
                          refine pure_ (i := 1) (N := some 50) (v := ?_) (a' := ?_) #[false, true, false, false, false, false, false, false, false, false] rfl rfl (any_of HT_.out (by kernel_rfl)) (fun _ _ _ h => h) (Or.inl ⟨by rfl, ?_⟩) ?_ ?_
                          rotate_left
                          · intro w'
                            go_simp
                            with_reducible rfl
                          rotate_left
                          · simp only [Act.put, List.setIfInBounds_toArray, List.set_cons_zero, List.set_cons_succ, i64_w, i32_w]
                            rfl
                          refine pure_ (i := 2) (N := some 51) (v := ?_) (a' := ?_) #[false, true, true, false, false, false, false, false, false, false] rfl rfl (any_of HT_.out (by kernel_rfl)) (fun _ _ _ h => h) (Or.inl ⟨by rfl, ?_⟩) ?_ ?_
                          rotate_left
                          · intro w'
                            go_simp
                            with_reducible rfl
                          rotate_left
                          · simp only [Act.put, List.setIfInBounds_toArray, List.set_cons_zero, List.set_cons_succ, i64_w, i32_w]
                            rfl
                          refine pure_ (i := 3) (N := some 52) (v := ?_) (a' := ?_) #[false, true, true, true, false, false, false, false, false, false] rfl rfl (any_of HT_.out (by kernel_rfl)) (fun _ _ _ h => h) (Or.inl ⟨by rfl, ?_⟩) ?_ ?_
                          rotate_left
                          · intro w'
                            go_simp
                            with_reducible rfl
                          rotate_left
                          · simp only [Act.put, List.setIfInBounds_toArray, List.set_cons_zero, List.set_cons_succ, i64_w, i32_w]
                            rfl
                          refine pure_ (i := 5) (N := some 54) (v := ?_) (a' := ?_) #[false, true, true, true, false, true, false, false, false, false] rfl rfl (any_of HT_.out (by kernel_rfl)) (fun _ _ _ h => h) (Or.inl ⟨by rfl, ?_⟩) ?_ ?_
                          rotate_left
                          · intro w'
                            go_simp
                            with_reducible rfl
                          rotate_left
                          · simp only [Act.put, List.setIfInBounds_toArray, List.set_cons_zero, List.set_cons_succ, i64_w, i32_w]
                            rfl
                          refine pure_ (i := 7) (N := some 56) (v := ?_) (a' := ?_) #[false, true, true, true, false, true, false, true, false, false] rfl rfl (any_of HT_.out (by kernel_rfl)) (fun _ _ _ h => h) (Or.inl ⟨by rfl, ?_⟩) ?_ ?_
                          rotate_left
                          · intro w'
                            go_simp
                            with_reducible rfl
                          rotate_left
                          · simp only [Act.put, List.setIfInBounds_toArray, List.set_cons_zero, List.set_cons_succ, i64_w, i32_w]
                            rfl
                          refine pure_ (i := 8) (N := some 57) (v := ?_) (a' := ?_) #[false, true, true, true, false, true, false, true, true, false] rfl rfl (any_of HT_.out (by kernel_rfl)) (fun _ _ _ h => h) (Or.inl ⟨by rfl, ?_⟩) ?_ ?_
                          rotate_left
                          · intro w'
                            go_simp
                            with_reducible rfl
                          rotate_left
                          · simp only [Act.put, List.setIfInBounds_toArray, List.set_cons_zero, List.set_cons_succ, i64_w, i32_w]
                            rfl
                          refine take_ (i := 0) (N := some 49) (v := ?_) (a' := ?_) #[true, true, true, true, false, true, false, true, true, false] rfl rfl (take_ofW HT_.out HW_.out (by kernel_rfl)) (fun _ _ _ h => h) (Or.inl ⟨by rfl, ?_⟩) hHeld ?_ ?_
                          rotate_left
                          · rintro w' ⟨s0, s1, s2⟩
                            go_simp
                            with_reducible rfl
                          rotate_left
                          · simp only [Act.put, List.setIfInBounds_toArray, List.set_cons_zero, List.set_cons_succ, i64_w, i32_w]
                            rfl
                          refine take_ (i := 4) (N := some 53) (v := ?_) (a' := ?_) #[true, true, true, true, true, true, false, true, true, false] rfl rfl (take_ofW HT_.out HW_.out (by kernel_rfl)) (fun _ _ _ h => h) (Or.inl ⟨by rfl, ?_⟩) hHeld ?_ ?_
                          rotate_left
                          · rintro w' ⟨s0, s1, s2⟩
                            go_simp
                            with_reducible rfl
                          rotate_left
                          · simp only [Act.put, List.setIfInBounds_toArray, List.set_cons_zero, List.set_cons_succ, i64_w, i32_w]
                            rfl
                          refine one_ (i := 6) (N := some 55) #[true, true, true, true, true, true, true, true, true, false] rfl rfl (one_of HT_.out (by kernel_rfl)) (by decide) (fun K hK => ?_)
                          refine goes_ Try.func42 (by kernel_rfl) rfl #[.agg #[.slice A0_0 l0_0.length c0_0, .slice A0_1 l0_1.length c0_1], .string (rdOf ByteArray.empty t348 x11_3), .string a2] (by rfl) rfl rfl (by (try simp only [List.map_toArray, List.map_cons, List.map_nil]); first | done | rfl | (simp only [List.length_drop, List.length_take]; rfl)) ?_
                          with_reducible refine (brickyardref19_far.calls k3 _ _ l0_0 _ _ l0_1 (rdOf ByteArray.empty t348 x11_3) a2 t352 _ ?side1 ?side2 ?side3 ?side4 A27.out).mono ?_
                          (case side1 => repeat (first | exact (Kd.C_below HR0_0.out HB.out) | (with_reducible refine Kd.C_alloc ?_ _) | (with_reducible refine Kd.C_drewN ?_ _) | (with_reducible refine Kd.C_drew ?_)))
                          (case side2 => exact HC0_0.out)
                          (case side3 => repeat (first | exact (Kd.C_below HR0_1.out HB.out) | (with_reducible refine Kd.C_alloc ?_ _) | (with_reducible refine Kd.C_drewN ?_ _) | (with_reducible refine Kd.C_drew ?_)))
                          (case side4 => exact HC0_1.out)
                          rintro e w32 ⟨rfl, hb⟩
                          have HS2_ := (hb.cell (World.block_lt_of_cell? _ _ (hHeld.2.2))).trans (hHeld.2.2)
                          refine ⟨_, rfl, ?_⟩
                          have n0_ := Aside0.mk (Kd.R_below (by (with_reducible repeat (first | apply Kd.R_alloc | apply Kd.R_drewN | apply Kd.R_drew)); exact HO_8.out) hb)
                          have n1_ := Aside0.mk (Kd.R_below (by (with_reducible repeat (first | apply Kd.R_alloc | apply Kd.R_drewN | apply Kd.R_drew)); exact HO_10.out) hb)
                          have n2_ := Aside0.mk (blk_below (g := gb340) (o := .cells #[.slice A0_0 l0_0.length c0_0, .slice A0_1 l0_1.length c0_1] 29 (0, 0)) (by (with_reducible repeat (first | refine blk_drewN ?_ _ | refine blk_drew ?_ | refine blk_alloc ?_ _)); exact BK340.out) hb)
                          have n3_ := Aside0.mk (below_step (by repeat (first | (with_reducible first | exact HB.out | apply below_alloc | apply pw_below_drewN | apply below_drew1 | refine below_set ?_ GE340.out) | exact HB.out)) hb)
                          clear HO_8
                          clear HO_10
                          clear BK340
                          clear HB
                          have HO_8 := n0_
                          have HO_10 := n1_
                          have BK340 := n2_
                          have HB := n3_
                          clear n0_ n1_ n2_ n3_
                          (try clear hb)
                          (try clear hb2)
                          (try clear hk)
                          (try clear hi)
                          refine hK.out _ _ ⟨(blk_cell BK340.out 0).trans rfl, (blk_cell BK340.out 1).trans rfl, HS2_⟩ (fun hHeld => ?_)
                          clear hK K
                          refine norm_ (a' := ?_) ?_ ?_
                          rotate_left
                          · show Act.put _ (some 55) _ = _
                            simp only [Act.put, List.setIfInBounds_toArray, List.set_cons_zero, List.set_cons_succ, i64_w, i32_w]
                            rfl
                          refine pure_ (i := 9) (N := some 58) (v := ?_) (a' := ?_) #[true, true, true, true, true, true, true, true, true, true] rfl rfl (any_of HT_.out (by kernel_rfl)) (fun _ _ _ h => h) (Or.inl ⟨by rfl, ?_⟩) ?_ ?_
                          rotate_left
                          · intro w'
                            go_simp
                            with_reducible rfl
                          rotate_left
                          · simp only [Act.put, List.setIfInBounds_toArray, List.set_cons_zero, List.set_cons_succ, i64_w, i32_w]
                            rfl
                          refine done_ (done_of HT_.out (by kernel_rfl)) ?_
                          have p353 : 0 ≤ (x11_3 : Int) := of_decide_eq_true (by first | (with_reducible assumption) | assumption)
                          have q353 : x11_3 < (t348.length : Int) := of_decide_eq_true (by first | (with_reducible assumption) | assumption)
                          obtain ⟨ad353, e353, hx353_0⟩ := Kd.at_string (Kd.R_reads' HO_10.out).2.2 x11_3 p353 q353
                          obtain rfl : ad351 = ad353 := (by injection e353)
                          replace p353 := eq_true p353
                          replace q353 := eq_true q353
                          try go_wp2_with (first | ((with_reducible refine gate_builtin (b := .append) (xs := #[.tmp 63, .tmp 65]) rfl ?_); at_builtin; refine Kd.R_append Kd.string (w0 := w) w.heap.size rfl (.tmp 63) (.tmp 65) 23 9 (.string ⟨#[]⟩) 16 rfl Try.underlying23 info9 rfl (by decide) (by omega) u8 x8_2 (rdOf ByteArray.empty t348 x11_3) [.string (rdOf ByteArray.empty t348 x11_3)] (fun k_ => some k_ ≠ (.slice (some ad351) t348.length co30 : Value).ownBlock) (fun _ => False) rfl rfl ?aP (fun _ hk => hk.elim) ?aF ?aO ?aB ?aS ?aL ?_; (case aP => exact rfl); (case aB => exact (by repeat (first | (with_reducible first | exact HB.out | apply below_alloc | apply pw_below_drewN | apply below_drew1 | refine below_set ?_ GE340.out) | exact HB.out))); (case aF => exact (fun k_ hk => Kd.fresh' (Kd.R_lt (by (with_reducible repeat (first | apply Kd.R_alloc | apply Kd.R_drewN | apply Kd.R_drew)); exact HO_10.out)) k_ hk)); (case aO => exact (by (with_reducible repeat (first | apply Kd.R_alloc | apply Kd.R_drewN | apply Kd.R_drew)); exact HO_8.out)); (case aS => exact (below_size (by repeat (first | (with_reducible first | exact HB.out | apply below_alloc | apply pw_below_drewN | apply below_drew1 | refine below_set ?_ GE340.out) | exact HB.out)))); (case aL => have := LMc29.out; omega); intro v355 w33 ho hb hg hat; rw [← Ny354.out] at ho; have n0_ := Aside0.mk (Kd.R_after (ok := (fun _ => True)) (by (with_reducible repeat (first | apply Kd.R_alloc | apply Kd.R_drewN | apply Kd.R_drew)); exact Kd.R_mono HO_10.out (fun _ hk => ⟨trivial, hk⟩)) hg hat); have n1_ := Aside0.mk (blk_grown (g := gb340) (o := .cells #[.slice A0_0 l0_0.length c0_0, .slice A0_1 l0_1.length c0_1] 29 (0, 0)) (by (with_reducible repeat (first | refine blk_drewN ?_ _ | refine blk_drew ?_ | refine blk_alloc ?_ _)); exact BK340.out) hg (Kd.R_ne HO_8.out BK340.out (by decide))); have n2_ := Aside0.mk (hb); have n3_ := Aside0.mk (ho); clear HO_10; clear BK340; clear HB; clear HO_8; have HO_10 := n0_; have BK340 := n1_; have HB := n2_; have HO356 := n3_; clear n0_ n1_ n2_ n3_; clear ho hb hg hat))
                          go_roundg k3
                          case measure => have := HJ3.out; have := HK2.out; have := HK3.out; omega
                          case rel => exact ⟨(rdOf ByteArray.empty t348 x11_3), (y354), (by first | rfl | (simp; done) | (simp [*]; done)), H', ⟨by have := HJ3.out; have := HK2.out; have := HK3.out; omega⟩, ⟨by (with_reducible repeat (first | apply Kd.R_alloc | apply Kd.R_drewN | apply Kd.R_drew)); exact Kd.R_mono HO356.out (fun _ hk => trivial)⟩, ⟨by (with_reducible repeat (first | refine blk_drewN ?_ _ | refine blk_drew ?_ | refine blk_alloc ?_ _)); exact BK340.out⟩, ⟨by repeat (first | (with_reducible first | exact HB.out | apply below_alloc | apply pw_below_drewN | apply below_drew1 | refine below_set ?_ GE340.out) | exact HB.out)⟩⟩
                        · rw [if_neg c29] at H
                          exact absurd H (by simp)
                      · rw [if_neg c28] at H
                        have c28b0 : (t352 == (wrap64 (t347 - 1))) = false := beq_eq_false_iff_ne.mpr c28
                        have c28b1 : (t352 != (wrap64 (t347 - 1))) = true := bne_iff_ne.mpr c28
                        have H' := Aside0.mk H
                        clear H
                        obtain ⟨Ao34, co34, eo34⟩ := Kd.R_slice HO_10.out
                        subst eo34
                        try go_wp2
                        have n0_ := Aside0.mk (Kd.R_drew HO_8.out)
                        have n1_ := Aside0.mk (Kd.R_drew HO_10.out)
                        have n2_ := Aside0.mk (blk_drew BK340.out)
                        have n3_ := Aside0.mk (below_drew1 HB.out)
                        clear HO_8
                        clear HO_10
                        clear BK340
                        clear HB
                        have HO_8 := n0_
                        have HO_10 := n1_
                        have BK340 := n2_
                        have HB := n3_
                        clear n0_ n1_ n2_ n3_
                        have p351 : 0 ≤ (x11_3 : Int) := of_decide_eq_true (by first | (with_reducible assumption) | assumption)
                        have q351 : x11_3 < (t348.length : Int) := of_decide_eq_true (by first | (with_reducible assumption) | assumption)
                        obtain ⟨ad351, e351, hx351_0⟩ := Kd.at_string (Kd.R_reads' HO_10.out).2.2 x11_3 p351 q351
                        cases e351
                        replace p351 := eq_true p351
                        replace q351 := eq_true q351
                        refine start_ (n := 10) (S := fun w' => w'.cell? ⟨gb340, 0, none⟩ = some (.slice A0_0 l0_0.length c0_0) ∧ w'.cell? ⟨gb340, 1, none⟩ = some (.slice A0_1 l0_1.length c0_1) ∧ w'.cell? (ad351.add (x11_3).toNat) = some (.string (rdOf ByteArray.empty t348 x11_3))) (ds := []) #[false, false, false, false, false, false, false, false, false, false] (by kernel_rfl) rfl rfl ⟨(blk_cell BK340.out 0).trans rfl, (blk_cell BK340.out 1).trans rfl, hx351_0⟩ (fun hHeld => ?_); refine with_tabW brickyardref19_Way.tab10 brickyardref19_Way.bits10 (fun HT_ HW_ => ?_)
                        generalize wr.drew = w35 at HO_8 HO_10 BK340 HB hx351_0 hHeld ⊢
                        refine pure_ (i := 1) (N := some 50) (v := ?_) (a' := ?_) #[false, true, false, false, false, false, false, false, false, false] rfl rfl (any_of HT_.out (by kernel_rfl)) (fun _ _ _ h => h) (Or.inl ⟨by rfl, ?_⟩) ?_ ?_
                        rotate_left
                        · intro w'
                          go_simp
                          with_reducible rfl
                        rotate_left
                        · simp only [Act.put, List.setIfInBounds_toArray, List.set_cons_zero, List.set_cons_succ, i64_w, i32_w]
                          rfl
                        refine pure_ (i := 2) (N := some 51) (v := ?_) (a' := ?_) #[false, true, true, false, false, false, false, false, false, false] rfl rfl (any_of HT_.out (by kernel_rfl)) (fun _ _ _ h => h) (Or.inl ⟨by rfl, ?_⟩) ?_ ?_
                        rotate_left
                        · intro w'
                          go_simp
                          with_reducible rfl
                        rotate_left
                        · simp only [Act.put, List.setIfInBounds_toArray, List.set_cons_zero, List.set_cons_succ, i64_w, i32_w]
                          rfl
                        refine pure_ (i := 3) (N := some 52) (v := ?_) (a' := ?_) #[false, true, true, true, false, false, false, false, false, false] rfl rfl (any_of HT_.out (by kernel_rfl)) (fun _ _ _ h => h) (Or.inl ⟨by rfl, ?_⟩) ?_ ?_
                        rotate_left
                        · intro w'
                          go_simp
                          with_reducible rfl
                        rotate_left
                        · simp only [Act.put, List.setIfInBounds_toArray, List.set_cons_zero, List.set_cons_succ, i64_w, i32_w]
                          rfl
                        refine pure_ (i := 5) (N := some 54) (v := ?_) (a' := ?_) #[false, true, true, true, false, true, false, false, false, false] rfl rfl (any_of HT_.out (by kernel_rfl)) (fun _ _ _ h => h) (Or.inl ⟨by rfl, ?_⟩) ?_ ?_
                        rotate_left
                        · intro w'
                          go_simp
                          with_reducible rfl
                        rotate_left
                        · simp only [Act.put, List.setIfInBounds_toArray, List.set_cons_zero, List.set_cons_succ, i64_w, i32_w]
                          rfl
                        refine pure_ (i := 7) (N := some 56) (v := ?_) (a' := ?_) #[false, true, true, true, false, true, false, true, false, false] rfl rfl (any_of HT_.out (by kernel_rfl)) (fun _ _ _ h => h) (Or.inl ⟨by rfl, ?_⟩) ?_ ?_
                        rotate_left
                        · intro w'
                          go_simp
                          with_reducible rfl
                        rotate_left
                        · simp only [Act.put, List.setIfInBounds_toArray, List.set_cons_zero, List.set_cons_succ, i64_w, i32_w]
                          rfl
                        refine pure_ (i := 8) (N := some 57) (v := ?_) (a' := ?_) #[false, true, true, true, false, true, false, true, true, false] rfl rfl (any_of HT_.out (by kernel_rfl)) (fun _ _ _ h => h) (Or.inl ⟨by rfl, ?_⟩) ?_ ?_
                        rotate_left
                        · intro w'
                          go_simp
                          with_reducible rfl
                        rotate_left
                        · simp only [Act.put, List.setIfInBounds_toArray, List.set_cons_zero, List.set_cons_succ, i64_w, i32_w]
                          rfl
                        refine take_ (i := 0) (N := some 49) (v := ?_) (a' := ?_) #[true, true, true, true, false, true, false, true, true, false] rfl rfl (take_ofW HT_.out HW_.out (by kernel_rfl)) (fun _ _ _ h => h) (Or.inl ⟨by rfl, ?_⟩) hHeld ?_ ?_
                        rotate_left
                        · rintro w' ⟨s0, s1, s2⟩
                          go_simp
                          with_reducible rfl
                        rotate_left
                        · simp only [Act.put, List.setIfInBounds_toArray, List.set_cons_zero, List.set_cons_succ, i64_w, i32_w]
                          rfl
                        refine take_ (i := 4) (N := some 53) (v := ?_) (a' := ?_) #[true, true, true, true, true, true, false, true, true, false] rfl rfl (take_ofW HT_.out HW_.out (by kernel_rfl)) (fun _ _ _ h => h) (Or.inl ⟨by rfl, ?_⟩) hHeld ?_ ?_
                        rotate_left
                        · rintro w' ⟨s0, s1, s2⟩
                          go_simp
                          with_reducible rfl
                        rotate_left
                        · simp only [Act.put, List.setIfInBounds_toArray, List.set_cons_zero, List.set_cons_succ, i64_w, i32_w]
                          rfl
                        refine one_ (i := 6) (N := some 55) #[true, true, true, true, true, true, true, true, true, false] rfl rfl (one_of HT_.out (by kernel_rfl)) (by decide) (fun K hK => ?_)
                        refine goes_ Try.func42 (by kernel_rfl) rfl #[.agg #[.slice A0_0 l0_0.length c0_0, .slice A0_1 l0_1.length c0_1], .string (rdOf ByteArray.empty t348 x11_3), .string a2] (by rfl) rfl rfl (by (try simp only [List.map_toArray, List.map_cons, List.map_nil]); first | done | rfl | (simp only [List.length_drop, List.length_take]; rfl)) ?_
                        with_reducible refine (brickyardref19_far.calls k3 _ _ l0_0 _ _ l0_1 (rdOf ByteArray.empty t348 x11_3) a2 t352 _ ?side1 ?side2 ?side3 ?side4 A27.out).mono ?_
                        (case side1 => repeat (first | exact (Kd.C_below HR0_0.out HB.out) | (with_reducible refine Kd.C_alloc ?_ _) | (with_reducible refine Kd.C_drewN ?_ _) | (with_reducible refine Kd.C_drew ?_)))
                        (case side2 => exact HC0_0.out)
                        (case side3 => repeat (first | exact (Kd.C_below HR0_1.out HB.out) | (with_reducible refine Kd.C_alloc ?_ _) | (with_reducible refine Kd.C_drewN ?_ _) | (with_reducible refine Kd.C_drew ?_)))
                        (case side4 => exact HC0_1.out)
                        rintro e w36 ⟨rfl, hb⟩
                        have HS2_ := (hb.cell (World.block_lt_of_cell? _ _ (hHeld.2.2))).trans (hHeld.2.2)
                        refine ⟨_, rfl, ?_⟩
                        have n0_ := Aside0.mk (Kd.R_below (by (with_reducible repeat (first | apply Kd.R_alloc | apply Kd.R_drewN | apply Kd.R_drew)); exact HO_8.out) hb)
                        have n1_ := Aside0.mk (Kd.R_below (by (with_reducible repeat (first | apply Kd.R_alloc | apply Kd.R_drewN | apply Kd.R_drew)); exact HO_10.out) hb)
                        have n2_ := Aside0.mk (blk_below (g := gb340) (o := .cells #[.slice A0_0 l0_0.length c0_0, .slice A0_1 l0_1.length c0_1] 29 (0, 0)) (by (with_reducible repeat (first | refine blk_drewN ?_ _ | refine blk_drew ?_ | refine blk_alloc ?_ _)); exact BK340.out) hb)
                        have n3_ := Aside0.mk (below_step (by repeat (first | (with_reducible first | exact HB.out | apply below_alloc | apply pw_below_drewN | apply below_drew1 | refine below_set ?_ GE340.out) | exact HB.out)) hb)
                        clear HO_8
                        clear HO_10
                        clear BK340
                        clear HB
                        have HO_8 := n0_
                        have HO_10 := n1_
                        have BK340 := n2_
                        have HB := n3_
                        clear n0_ n1_ n2_ n3_
                        (try clear hb)
                        (try clear hb2)
                        (try clear hk)
                        (try clear hi)
                        refine hK.out _ _ ⟨(blk_cell BK340.out 0).trans rfl, (blk_cell BK340.out 1).trans rfl, HS2_⟩ (fun hHeld => ?_)
                        clear hK K
                        refine norm_ (a' := ?_) ?_ ?_
                        rotate_left
                        · show Act.put _ (some 55) _ = _
                          simp only [Act.put, List.setIfInBounds_toArray, List.set_cons_zero, List.set_cons_succ, i64_w, i32_w]
                          rfl
                        refine pure_ (i := 9) (N := some 58) (v := ?_) (a' := ?_) #[true, true, true, true, true, true, true, true, true, true] rfl rfl (any_of HT_.out (by kernel_rfl)) (fun _ _ _ h => h) (Or.inl ⟨by rfl, ?_⟩) ?_ ?_
                        rotate_left
                        · intro w'
                          go_simp
                          with_reducible rfl
                        rotate_left
                        · simp only [Act.put, List.setIfInBounds_toArray, List.set_cons_zero, List.set_cons_succ, i64_w, i32_w]
                          rfl
                        refine done_ (done_of HT_.out (by kernel_rfl)) ?_
                        try go_wp2
                        go_roundg k3
                        case measure => have := HJ3.out; have := HK2.out; have := HK3.out; omega
                        case rel => exact ⟨(x1_3), (wrap64 (x11_3 + 1)), (by first | rfl | (simp; done) | (simp [*]; done)), (by first | rfl | (simp; done) | (simp [*]; done)), H', ⟨by have := HJ3.out; have := HK2.out; have := HK3.out; omega⟩, ⟨by (with_reducible repeat (first | apply Kd.R_alloc | apply Kd.R_drewN | apply Kd.R_drew)); exact HO_8.out⟩, ⟨by (with_reducible repeat (first | apply Kd.R_alloc | apply Kd.R_drewN | apply Kd.R_drew)); exact HO_10.out⟩, ⟨by (with_reducible repeat (first | refine blk_drewN ?_ _ | refine blk_drew ?_ | refine blk_alloc ?_ _)); exact BK340.out⟩, ⟨by repeat (first | (with_reducible first | exact HB.out | apply below_alloc | apply pw_below_drewN | apply below_drew1 | refine below_set ?_ GE340.out) | exact HB.out)⟩⟩
                    · rw [if_neg c26] at H
                      exact absurd H (by simp)
                  · rw [if_neg c25] at H
                    have c25b0 : decide (x11_3 < (t348.length : Int)) = false := decide_eq_false c25
                    clear c25
                    by_cases c37 : x8_2.length < 8796093022208
                    · rw [if_pos c37] at H
                      have LMc37 := Aside0.mk c37
                      clear c37
                      obtain ⟨y357, hy357⟩ : ∃ y_ : List ByteArray, y_ = (x8_2 ++ [x1_3]) := ⟨_, rfl⟩
                      replace H : (brickyardref19_Way.l0 k3 x1_3 a2 y357 l0_0 l0_1) = some (r1, r2) := by first | (rw [hy357]; with_reducible exact H) | (have H2_ := (Option.bind_some _ _).symm.trans H; rw [hy357]; with_reducible exact H2_) | (have H2_ := (Option.bind_some _ _).symm.trans H; with_reducible exact H2_) | with_reducible exact H | (rw [hy357]; exact H) | exact H
                      have Ny357 := Aside0.mk hy357
                      clear hy357
                      have H' := Aside0.mk H
                      clear H
                      obtain ⟨Ao38, co38, eo38⟩ := Kd.R_slice HO_10.out
                      subst eo38
                      go_wp2_with (first | ((with_reducible refine gate_builtin (b := .append) (xs := #[.tmp 63, .tmp 65]) rfl ?_); at_builtin; refine Kd.R_append Kd.string (w0 := w) w.heap.size rfl (.tmp 63) (.tmp 65) 23 9 (.string ⟨#[]⟩) 16 rfl Try.underlying23 info9 rfl (by decide) (by omega) u8 x8_2 x1_3 [.string x1_3] (fun k_ => some k_ ≠ (.slice Ao38 t348.length co38 : Value).ownBlock) (fun _ => False) rfl rfl ?aP (fun _ hk => hk.elim) ?aF ?aO ?aB ?aS ?aL ?_; (case aP => exact rfl); (case aB => exact (by repeat (first | (with_reducible first | exact HB.out | apply below_alloc | apply pw_below_drewN | apply below_drew1 | refine below_set ?_ GE340.out) | exact HB.out))); (case aF => exact (fun k_ hk => Kd.fresh' (Kd.R_lt (by (with_reducible repeat (first | apply Kd.R_alloc | apply Kd.R_drewN | apply Kd.R_drew)); exact HO_10.out)) k_ hk)); (case aO => exact (by (with_reducible repeat (first | apply Kd.R_alloc | apply Kd.R_drewN | apply Kd.R_drew)); exact HO_8.out)); (case aS => exact (below_size (by repeat (first | (with_reducible first | exact HB.out | apply below_alloc | apply pw_below_drewN | apply below_drew1 | refine below_set ?_ GE340.out) | exact HB.out)))); (case aL => have := LMc37.out; omega); intro v358 w39 ho hb hg hat; rw [← Ny357.out] at ho; have n0_ := Aside0.mk (Kd.R_after (ok := (fun _ => True)) (by (with_reducible repeat (first | apply Kd.R_alloc | apply Kd.R_drewN | apply Kd.R_drew)); exact Kd.R_mono HO_10.out (fun _ hk => ⟨trivial, hk⟩)) hg hat); have n1_ := Aside0.mk (blk_grown (g := gb340) (o := .cells #[.slice A0_0 l0_0.length c0_0, .slice A0_1 l0_1.length c0_1] 29 (0, 0)) (by (with_reducible repeat (first | refine blk_drewN ?_ _ | refine blk_drew ?_ | refine blk_alloc ?_ _)); exact BK340.out) hg (Kd.R_ne HO_8.out BK340.out (by decide))); have n2_ := Aside0.mk (hb); have n3_ := Aside0.mk (ho); clear HO_10; clear BK340; clear HB; clear HO_8; have HO_10 := n0_; have BK340 := n1_; have HB := n2_; have HO359 := n3_; clear n0_ n1_ n2_ n3_; clear ho hb hg hat))
                      go_roundg k3
                      case measure => have := HJ3.out; have := HK2.out; have := HK3.out; omega
                      case rel => exact ⟨(x1_3), (y357), (by first | rfl | (simp; done) | (simp [*]; done)), H', ⟨by have := HJ3.out; have := HK2.out; have := HK3.out; omega⟩, ⟨by (with_reducible repeat (first | apply Kd.R_alloc | apply Kd.R_drewN | apply Kd.R_drew)); exact Kd.R_mono HO359.out (fun _ hk => trivial)⟩, ⟨by (with_reducible repeat (first | refine blk_drewN ?_ _ | refine blk_drew ?_ | refine blk_alloc ?_ _)); exact BK340.out⟩, ⟨by repeat (first | (with_reducible first | exact HB.out | apply below_alloc | apply pw_below_drewN | apply below_drew1 | refine below_set ?_ GE340.out) | exact HB.out)⟩⟩
                    · rw [if_neg c37] at H
                      exact absurd H (by simp)
end Go.Proofs.Ytlccejbomgknkaa.PGraphFinds
namespace Go.Proofs.Ytlccejbomgknkaa
set_option linter.unusedVariables false
set_option linter.unusedSimpArgs false
set_option linter.unusedSectionVars false
open Go.RowKit Go.Maps Go.Proofs.YtlccejbomgknkaaW.PrintWords Go.Proofs.YtlccejbomgknkaaW.PrintLast
open PGraphFinds
def WayIs (N : List ByteArray) (E : Rel) (a b : ByteArray) (r : List ByteArray × Bool) : Prop :=
  (r.2 = true ∧ a ∈ N ∧ b ∈ N ∧ ∃ d, Dist E a b d ∧ GW E b d a r.1) ∨ (r.2 = false ∧ r.1 = [] ∧ ¬ (a ∈ N ∧ b ∈ N ∧ Reach E a b))
section
variable {gn : List ByteArray} {l : List S45} {a b : ByteArray} (hb : l.length ≤ 1000) (hg : gn.length ≤ 100000) (hE : ∀ x y, edg l x y → x ∈ gn ∧ y ∈ gn)
include hb hg hE
theorem way_l0 (ha : a ∈ gn) (hbn : b ∈ gn) {D : Nat} (hD : Dist (edg l) a b D) :
    ∀ (d : Nat) (cur : ByteArray) (pre : List ByteArray), Dist (edg l) cur b d → (∀ q, GW (edg l) b d cur q → GW (edg l) b D a (pre ++ q)) → pre.length + d = D →
      ∃ v, Ev (fun k => brickyardref19_Way.l0 k cur b (pre ++ [cur]) gn l) v ∧ WayIs gn (edg l) a b v := by
  have hDN : D < gn.length := dist_lt hE hbn hD
  intro d
  induction d with
  | zero =>
    intro cur pre hd hgw hl
    have e := dist_zero.1 hd
    refine ⟨(pre ++ [cur], true), ⟨1, fun k hk => ?_⟩, .inl ⟨rfl, ha, hbn, D, hD, hgw [cur] rfl⟩⟩
    obtain ⟨j, rfl⟩ : ∃ j, k = j + 1 := ⟨k - 1, by omega⟩
    simp only [brickyardref19_Way.l0]
    rw [if_pos (toL.2 e)]
  | succ d ih =>
    intro cur pre hd hgw hl
    have hne : cur ≠ b := fun e => by
      have := dist_unique hd (dist_zero.2 e)
      omega
    obtain ⟨f, hfe, hf⟩ := far_ev hb gn (a := cur) (b := b)
    have hfd := hf.1 (d + 1) hd
    subst hfd
    obtain ⟨kf, hkf⟩ : ∃ kf, ∀ k, kf ≤ k → brickyardref19_far.f k gn l cur b = some ((d + 1 : Nat) : Int) := hfe
    obtain ⟨r, hoe, hrise, hmem⟩ := out_ev gn (l := l) (by omega) cur
    obtain ⟨ko, hko⟩ : ∃ ko, ∀ k, ko ≤ k → brickyardref19_Out.f k gn l cur = some r := hoe
    have hrl : r.length ≤ 1000000 := by
      have := nodup_len (rise_nodup hrise) (N := gn) (fun z hz => (hE _ _ ((hmem z).1 hz)).2)
      omega
    have hw : wrap64 (((d + 1 : Nat) : Int) - 1) = (d : Int) := by unfold wrap64; omega
    have key : ∀ (m i : Nat), i ≤ r.length → r.length ≤ m + i → (∀ j z, j < i → r[j]? = some z → ¬ Dist (edg l) z b d) → ∃ v, Ev (fun k => brickyardref19_Way.l1 k cur b (pre ++ [cur]) ((d + 1 : Nat) : Int) r (i : Int) gn l) v ∧ WayIs gn (edg l) a b v := by
      have hend : ∀ i, r.length ≤ i → (∀ j z, j < i → r[j]? = some z → ¬ Dist (edg l) z b d) → False := by
        intro i hi hno
        obtain ⟨z, hz, hdz⟩ := dist_next hd
        obtain ⟨j, hj⟩ := List.getElem?_of_mem ((hmem z).2 hz)
        have := (List.getElem?_eq_some_iff.1 hj).1
        exact hno j z (by omega) hj hdz
      intro m
      induction m with
      | zero => intro i hi hm hno; exact (hend i (by omega) hno).elim
      | succ m ihm =>
        intro i hi hm hno
        by_cases hil : i < r.length
        · have hat := has_at hil
          obtain ⟨z, hz⟩ : ∃ z, z = rdOf ByteArray.empty r (i : Int) := ⟨_, rfl⟩
          rw [← hz] at hat
          have hEz : edg l cur z := (hmem z).1 (List.mem_of_getElem? hat)
          obtain ⟨fz, hfze, hfz⟩ := far_ev hb gn (a := z) (b := b)
          obtain ⟨kz, hkz⟩ : ∃ kz, ∀ k, kz ≤ k → brickyardref19_far.f k gn l z b = some fz := hfze
          by_cases hdz : Dist (edg l) z b d
          · have hfv := hfz.1 d hdz
            obtain ⟨v, hv, hs⟩ := ih z (pre ++ [cur]) hdz (fun q hq => by
              have := hgw (cur :: q) ⟨z, q, rfl, hq, hEz, hdz, fun y hy hdy => by
                obtain ⟨j, hj⟩ := List.getElem?_of_mem ((hmem y).2 hy)
                rcases Nat.lt_trichotomy j i with h1 | h1 | h1
                · exact absurd hdy (hno j y h1 hj)
                · subst h1
                  rw [hat] at hj
                  injection hj with hj
                  exact .inl hj.symm
                · have hjl := (List.getElem?_eq_some_iff.1 hj).1
                  have h2 := (List.pairwise_iff_getElem.1 hrise) i j hil hjl h1
                  rw [List.getElem?_eq_getElem hjl] at hj
                  rw [List.getElem?_eq_getElem hil] at hat
                  injection hj with hj
                  injection hat with hat
                  rw [hj, hat] at h2
                  exact .inr h2⟩
              simpa using this) (by rw [List.length_append, List.length_singleton]; omega)
            refine ⟨v, hv.step ⟨kz, fun k hk => ?_⟩, hs⟩
            simp only [brickyardref19_Way.l1]
            rw [if_pos (by omega), if_pos (by omega), ← hz, hkz k hk]
            simp only [Option.bind_some]
            rw [if_pos (by rw [hw, hfv]), if_pos (by rw [List.length_append, List.length_singleton]; omega)]
          · have hfne : fz ≠ (d : Int) := by
              intro e
              by_cases hr : Reach (edg l) z b
              · obtain ⟨m', hm'⟩ := reach_dist.1 hr
                have := hfz.1 m' hm'
                have : m' = d := by omega
                subst this
                exact hdz hm'
              · have := hfz.2 hr
                omega
            obtain ⟨v, hv, hs⟩ := ihm (i + 1) (by omega) (by omega) (fun j y hj hy => by
              by_cases e : j = i
              · subst e
                rw [hat] at hy
                injection hy with hy
                rw [← hy]; exact hdz
              · exact hno j y (by omega) hy)
            refine ⟨v, hv.step ⟨kz, fun k hk => ?_⟩, hs⟩
            simp only [brickyardref19_Way.l1]
            rw [if_pos (by omega), if_pos (by omega), ← hz, hkz k hk]
            simp only [Option.bind_some]
            rw [if_neg (by rw [hw]; exact hfne), w64 (by omega)]
        · exact (hend i (by omega) hno).elim
    obtain ⟨v, hv, hs⟩ := key r.length 0 (by omega) (by omega) (fun j z hj => by omega)
    refine ⟨v, hv.step ⟨kf + ko, fun k hk => ?_⟩, hs⟩
    simp only [brickyardref19_Way.l0]
    rw [if_neg (fun h => hne (toL.1 h)), hkf k (by omega)]
    simp only [Option.bind_some]
    rw [hko k (by omega)]
    rfl
theorem way_ev : ∃ v, Ev (fun k => brickyardref19_Way.f k gn l a b) v ∧ WayIs gn (edg l) a b v := by
  obtain ⟨ka, hka⟩ : ∃ kh, ∀ k, kh ≤ k → brickyardref19_has.f k gn a = some (Lib.containsS gn a) := has_ev (x0 := gn) (by omega) a
  obtain ⟨kb, hkb⟩ : ∃ kh, ∀ k, kh ≤ k → brickyardref19_has.f k gn b = some (Lib.containsS gn b) := has_ev (x0 := gn) (by omega) b
  obtain ⟨f, hfe, hf⟩ := far_ev hb gn (a := a) (b := b)
  obtain ⟨kf, hkf⟩ : ∃ kf, ∀ k, kf ≤ k → brickyardref19_far.f k gn l a b = some f := hfe
  have hnone : ¬ (a ∈ gn ∧ b ∈ gn ∧ Reach (edg l) a b) → WayIs gn (edg l) a b ([], false) := fun h => .inr ⟨rfl, rfl, h⟩
  by_cases ha : a ∈ gn
  · by_cases hbn : b ∈ gn
    · by_cases hr : Reach (edg l) a b
      · obtain ⟨D, hD⟩ := reach_dist.1 hr
        have hfD := hf.1 D hD
        obtain ⟨v, ⟨kv, hkv⟩, hs⟩ := way_l0 hb hg hE ha hbn hD D a [] hD (fun q hq => hq) (by simp)
        have hkv' : ∀ k, kv ≤ k → brickyardref19_Way.l0 k a b [a] gn l = some v := hkv
        refine ⟨v, ⟨ka + kb + kf + kv + 1, fun k hk => ?_⟩, hs⟩
        obtain ⟨j, rfl⟩ : ∃ j, k = j + 1 := ⟨k - 1, by omega⟩
        simp only [brickyardref19_Way.f]
        rw [hka (j + 1) (by omega), contains_yes ha]
        simp only [Option.bind_some, if_true]
        rw [hkb (j + 1) (by omega), contains_yes hbn]
        simp only [Option.bind_some, if_true]
        rw [hkf (j + 1) (by omega)]
        simp only [Option.bind_some]
        rw [decide_eq_false (by omega)]
        simp only [brickyardref19_Way.j0, Bool.false_eq_true, if_false]
        exact hkv' j (by omega)
      · refine ⟨([], false), ⟨ka + kb + kf + 1, fun k hk => ?_⟩, hnone (fun h => hr h.2.2)⟩
        obtain ⟨j, rfl⟩ : ∃ j, k = j + 1 := ⟨k - 1, by omega⟩
        have hf2 := hf.2 hr
        simp only [brickyardref19_Way.f]
        rw [hka (j + 1) (by omega), contains_yes ha]
        simp only [Option.bind_some, if_true]
        rw [hkb (j + 1) (by omega), contains_yes hbn]
        simp only [Option.bind_some, if_true]
        rw [hkf (j + 1) (by omega)]
        simp only [Option.bind_some]
        rw [decide_eq_true (by omega)]
        simp only [brickyardref19_Way.j0, if_true]
    · refine ⟨([], false), ⟨ka + kb + 1, fun k hk => ?_⟩, hnone (fun h => hbn h.2.1)⟩
      obtain ⟨j, rfl⟩ : ∃ j, k = j + 1 := ⟨k - 1, by omega⟩
      simp only [brickyardref19_Way.f]
      rw [hka (j + 1) (by omega), contains_yes ha]
      simp only [Option.bind_some, if_true]
      rw [hkb (j + 1) (by omega), contains_no hbn]
      simp only [Option.bind_some, Bool.false_eq_true, if_false]
      simp only [brickyardref19_Way.j0, if_true]
  · refine ⟨([], false), ⟨ka + 1, fun k hk => ?_⟩, hnone (fun h => ha h.1)⟩
    obtain ⟨j, rfl⟩ : ∃ j, k = j + 1 := ⟨k - 1, by omega⟩
    simp only [brickyardref19_Way.f]
    rw [hka (j + 1) (by omega), contains_no ha]
    simp only [Option.bind_some, Bool.false_eq_true, if_false]
    simp only [brickyardref19_Way.j0, if_true]
end
end Go.Proofs.Ytlccejbomgknkaa
