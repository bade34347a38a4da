/- TreeKeeps: plain laws of the files; what a state of the walk holds. -/
import Derived.Test.YtpmeefdegcllkaaTCopy
import Derived.Test.YtpmeefdegcllkaaTTwo
namespace Go.Proofs.Ytpmeefdegcllkaa
set_option linter.unusedVariables false
set_option linter.unusedSimpArgs false
open Go.RowKit Go.Shelf Go.Maps Go.Proofs.YtpmeefdegcllkaaW.PrintWords Go.Proofs.YtpmeefdegcllkaaW.PrintLast
open PTreeLists

/-! ### plain laws -/
theorem find_rep (F : List Pr) (p s q : ByteArray) : (F.map (fun x => if x.1 = p then (p, s) else x)).find? (fun x => decide (x.1 = q)) = if q = p then (F.find? (fun x => decide (x.1 = p))).map (fun _ => (p, s)) else F.find? (fun x => decide (x.1 = q)) := by
  induction F with
  | nil => simp
  | cons a F ih =>
    rw [List.map_cons, List.find?_cons, ih]
    by_cases ha : a.1 = p
    · rw [if_pos ha]
      by_cases hq : q = p
      · subst hq
        simp [ha]
      · have : ¬ p = q := fun h => hq h.symm
        simp [this, hq, List.find?_cons, ha]
    · rw [if_neg ha]
      by_cases hq : q = p
      · subst hq
        simp [ha]
      · by_cases haq : a.1 = q
        · simp [haq, hq]
        · simp [haq, hq]
theorem getF_put (F : List Pr) (p s q : ByteArray) : getF (putF F p s) q = if q = p then some s else getF F q := by
  unfold putF getF
  by_cases h : F.any (fun x => decide (x.1 = p)) = true
  · rw [if_pos h, find_rep]
    by_cases hq : q = p
    · rw [if_pos hq, if_pos hq]
      rw [List.any_eq_true] at h
      obtain ⟨x, hx, hxp⟩ := h
      cases hf : F.find? (fun x => decide (x.1 = p)) with
      | none => exact absurd hxp (List.find?_eq_none.1 hf x hx)
      | some y => rfl
    · rw [if_neg hq, if_neg hq]
  · rw [if_neg h, List.find?_append]
    have hn : F.find? (fun x => decide (x.1 = p)) = none := by
      rw [List.find?_eq_none]
      intro x hx hxp
      exact h (List.any_eq_true.2 ⟨x, hx, hxp⟩)
    by_cases hq : q = p
    · subst hq
      simp [hn]
    · have : ¬ p = q := fun h => hq h.symm
      simp [hq, this]
theorem getF_del (F : List Pr) (p q : ByteArray) : getF (delF F p) q = if q = p then none else getF F q := by
  unfold delF getF
  induction F with
  | nil => simp
  | cons a F ih =>
    rw [List.filter_cons]
    by_cases ha : a.1 = p
    · rw [if_neg (by simp [ha]), ih]
      by_cases hq : q = p
      · simp [hq]
      · have : ¬ p = q := fun h => hq h.symm
        simp [hq, List.find?_cons, ha, this]
    · rw [if_pos (by simp [ha]), List.find?_cons]
      by_cases haq : a.1 = q
      · have hq : ¬ q = p := fun h => ha (haq.trans h)
        simp [haq, hq]
      · simp only [haq, decide_false]
        rw [ih]
        by_cases hq : q = p
        · simp [hq]
        · simp [hq, List.find?_cons, haq]
/-- Every path is one. -/
def PF (F : List Pr) : Prop := ∀ x, x ∈ F.map Prod.fst → isP x = true
theorem mem_getF {F : List Pr} {q : ByteArray} : q ∈ F.map Prod.fst ↔ ∃ s, getF F q = some s := by
  constructor
  · intro h
    obtain ⟨x, hx, rfl⟩ := List.mem_map.1 h
    unfold getF
    cases hf : F.find? (fun y => decide (y.1 = x.1)) with
    | none => exact absurd (by simp) (List.find?_eq_none.1 hf x hx)
    | some y => exact ⟨y.2, rfl⟩
  · rintro ⟨s, h⟩
    unfold getF at h
    cases hf : F.find? (fun y => decide (y.1 = q)) with
    | none => rw [hf] at h; cases h
    | some y =>
      have h1 := List.mem_of_find?_eq_some hf
      have h2 : y.1 = q := by simpa using List.find?_some hf
      exact List.mem_map.2 ⟨y, h1, h2⟩
theorem PF.put {F : List Pr} {p s : ByteArray} (h : PF F) (hp : isP p = true) : PF (putF F p s) := by
  intro x hx
  obtain ⟨u, hu⟩ := mem_getF.1 hx
  rw [getF_put] at hu
  by_cases e : x = p
  · rw [e]; exact hp
  · rw [if_neg e] at hu
    exact h x (mem_getF.2 ⟨u, hu⟩)
theorem PF.del {F : List Pr} {p : ByteArray} (h : PF F) : PF (delF F p) := by
  intro x hx
  obtain ⟨u, hu⟩ := mem_getF.1 hx
  rw [getF_del] at hu
  by_cases e : x = p
  · rw [if_pos e] at hu; cases hu
  · rw [if_neg e] at hu
    exact h x (mem_getF.2 ⟨u, hu⟩)
theorem rdF_mem {F : List Pr} (h : PF F) {q : ByteArray} (hq : q ∈ F.map Prod.fst) : (rdF F q).2 = 0 := by
  obtain ⟨s, hs⟩ := mem_getF.1 hq
  unfold rdF
  rw [if_pos (h q hq), hs]
theorem rdF_put (F : List Pr) {p s : ByteArray} (hp : isP p = true) (q : ByteArray) : rdF (putF F p s) q = if q = p then (s, 0) else rdF F q := by
  by_cases e : q = p
  · rw [if_pos e, e]
    unfold rdF
    rw [if_pos hp, getF_put, if_pos rfl]
  · rw [if_neg e]
    unfold rdF
    rw [getF_put, if_neg e]
theorem rdF_del (F : List Pr) {p : ByteArray} (hp : isP p = true) : rdF (delF F p) p = (⟨#[]⟩, 4) := by
  unfold rdF
  rw [if_pos hp, getF_del, if_pos rfl]

/-! ### states -/
structure K1 (w W : World) (t b n : Nat) (F : List Pr) : Prop where
  T : TreeAt W w.heap.size t b n F
  hF : F.length ≤ 256
  pf : PF F
  bl : Below w.heap.size w W
section
variable {w W W' : World} {t b n : Nat} {F : List Pr}
theorem K1.below (h : K1 w W t b n F) (hb : Below W.heap.size W W') : K1 w W' t b n F := ⟨h.T.below hb, h.hF, h.pf, h.bl.trans (hb.mono h.bl.size)⟩
theorem K1.mov (h : K1 w W t b n F) {n' : Nat} {F' : List Pr} (hm : Moved t b W W') (hT : TreeAt W' w.heap.size t b n' F') (hF : F'.length ≤ 256) (hp : PF F') : K1 w W' t b n' F' := ⟨hT, hF, hp, h.bl.trans (hm.below h.bl.size h.T.bt h.T.bb)⟩
theorem K1.write (h : K1 w W t b n F) (hn : n ≤ 100000) (p s : ByteArray) :
    Calls Try.prog 8 #[.pointer (some ⟨t, 0, none⟩), .string p, .string s] W fun e W' => ∃ (c : Int) (n' : Nat) (F' : List Pr), e = .returned (.int .i64 c) ∧ WriteIs p s n F c n' F' ∧ K1 w W' t b n' F' ∧ n' ≤ n + 1 ∧ Moved t b W W' := by
  refine (write_any h.T (by omega) (by have := h.hF; omega) p s).mono ?_
  rintro e W' ⟨c, n', F', rfl, hw, hT, hm⟩
  obtain ⟨h1, h2⟩ := hw.len h.hF
  refine ⟨c, n', F', rfl, hw, h.mov hm hT h1 ?_, h2, hm⟩
  cases hw with
  | arg => exact h.pf
  | long => exact h.pf
  | same => exact h.pf
  | full => exact h.pf
  | new hp => exact h.pf.put hp
  | other u hp => exact h.pf.put hp
theorem K1.remove (h : K1 w W t b n F) (hn : n ≤ 100000) (p : ByteArray) :
    Calls Try.prog 12 #[.pointer (some ⟨t, 0, none⟩), .string p] W fun e W' => ∃ (c : Int) (n' : Nat) (F' : List Pr), e = .returned (.int .i64 c) ∧ RemIs p n F c n' F' ∧ K1 w W' t b n' F' ∧ n' ≤ n + 1 ∧ Moved t b W W' := by
  refine (remove_any h.T (by omega) p).mono ?_
  rintro e W' ⟨c, n', F', rfl, hw, hT, hm⟩
  have hd : (delF F p).length ≤ F.length := List.length_filter_le _ _
  have h0 := h.hF
  cases hw with
  | no h1 => exact ⟨_, n, F, rfl, .no h1, h.mov hm hT h0 h.pf, by omega, hm⟩
  | yes h1 => exact ⟨0, n + 1, delF F p, rfl, .yes h1, h.mov hm hT (by omega) h.pf.del, by omega, hm⟩
/-- Another tree stays where this one turns. -/
theorem TreeAt.apart {B2 t2 b2 n2 : Nat} {F2 : List Pr} (h : TreeAt W B2 t2 b2 n2 F2) (hm : Moved t b W W') (h1 : t < B2) (h2 : b < B2) : TreeAt W' B2 t2 b2 n2 F2 := by
  obtain ⟨⟨cs, hc, h3⟩, hmo, h4, h5⟩ := h
  exact ⟨⟨cs, (hm.block t2 (Array.getElem?_eq_some_iff.1 hc).1 (by omega) (by omega)).trans hc, h3⟩, hmo.same (hm.block b2 hmo.lt (by omega) (by omega)), h4, h5⟩
end
end Go.Proofs.Ytpmeefdegcllkaa
