/- TreeLists, TreeKeeps: what a state of the walk holds. -/
import Derived.Test.YtpmeefdegcllkaaTOpen
import Derived.Laws.Cover1
import Derived.Sort.Walk0
namespace Go.Proofs.Ytpmeefdegcllkaa
set_option linter.unusedVariables false
set_option linter.unusedSimpArgs false
open Go.RowKit Go.Shelf Go.Maps Go.Proofs.YtpmeefdegcllkaaW.PrintWords Go.Proofs.YtpmeefdegcllkaaW.PrintLast
open PTreeLists

theorem Boxed.low {W W' : World} {B n : Nat} {t : TypeId} {v : Value} (h : Boxed W B t v) (hb : Below n W W') (hn : B < n) : Boxed W' B t v := (hb.block B hn).trans h
theorem Boxed.mov {W W' : World} {B t b : Nat} {y : TypeId} {v : Value} (h : Boxed W B y v) (hm : Moved t b W W') (h1 : B ≠ t) (h2 : B ≠ b) : Boxed W' B y v := (hm.block B h.lt h1 h2).trans h
theorem TreeAt.no_box {W : World} {B t b n : Nat} {F : List Pr} (h : TreeAt W B t b n F) {bx : Nat} {y : TypeId} {v : Value} (hb : Boxed W bx y v) (hy : y ≠ 50) : bx ≠ t ∧ bx ≠ b := by
  constructor
  · rintro rfl
    obtain ⟨cs, hc, _⟩ := h.blk
    have := hc.symm.trans hb
    simp at this
    exact hy this.2.symm
  · rintro rfl
    obtain ⟨es, ck, hm, _⟩ := h.mo
    have := hm.symm.trans hb
    cases this

theorem less_bs (a b : ByteArray) : Op.bytesLess a.toList b.toList = decide (bs a < bs b) := by
  rw [Go.Proofs.bytesLess_eq, ByteArray.toList_eq, ByteArray.toList_eq]
  rfl
/-- The boxes of TreeLists: the prefix, the number, the result. -/
structure LS (w W : World) (px : ByteArray) (left : Int) : Prop where
  px : Boxed W w.heap.size 9 (.string px)
  lf : Boxed W (w.heap.size + 1) 3 (.int .i64 left)
  rs : Boxed W (w.heap.size + 2) 4 (.bool false)
  bl : Below w.heap.size w W
theorem LS.sz {w W : World} {px : ByteArray} {left : Int} (h : LS w W px left) : w.heap.size + 3 ≤ W.heap.size := by have := h.rs.lt; omega
theorem LS.step {w W W' : World} {px : ByteArray} {left : Int} (h : LS w W px left) (hb : Below (w.heap.size + 3) W W') : LS w W' px left :=
  ⟨Boxed.low h.px hb (by omega), Boxed.low h.lf hb (by omega), Boxed.low h.rs hb (by omega), h.bl.trans (hb.mono (by omega))⟩
theorem LS.start (w : World) (px : ByteArray) (left : Int) : LS w (((w.alloc (.cells #[.string px] 9)).alloc (.cells #[.int .i64 left] 3)).alloc (.cells #[.bool false] 4)) px left := by
  refine ⟨((Boxed.new w 9 _).alloc _).alloc _, ?_, ?_, (((Below.refl _ w).alloc (Nat.le_refl _) _).alloc (by simp) _).alloc (by simp; omega) _⟩
  · have := (Boxed.new (w.alloc (.cells #[.string px] 9)) 3 (.int .i64 left)).alloc (.cells #[.bool false] 4)
    rw [World.size_alloc] at this
    exact this
  · have := Boxed.new ((w.alloc (.cells #[.string px] 9)).alloc (.cells #[.int .i64 left] 3)) 4 (.bool false)
    rw [World.size_alloc, World.size_alloc] at this
    exact this

/-- .. and the tree, its pointer in a box. -/
structure S1 (w W : World) (px : ByteArray) (left : Int) (t b bt n : Nat) (F : List Pr) : Prop where
  ls : LS w W px left
  T : TreeAt W (w.heap.size + 3) t b n F
  bx : Boxed W bt 25 (.pointer (some ⟨t, 0, none⟩))
  hF : F.length ≤ 256
section
variable {w W W' : World} {px : ByteArray} {left : Int} {t b bt n : Nat} {F : List Pr}
theorem S1.below (h : S1 w W px left t b bt n F) (hb : Below W.heap.size W W') : S1 w W' px left t b bt n F :=
  ⟨h.ls.step (hb.mono h.ls.sz), h.T.below hb, Boxed.below h.bx hb, h.hF⟩
theorem S1.mov (h : S1 w W px left t b bt n F) {n' : Nat} {F' : List Pr} (hm : Moved t b W W') (hT : TreeAt W' (w.heap.size + 3) t b n' F') (hF : F'.length ≤ 256) : S1 w W' px left t b bt n' F' :=
  ⟨h.ls.step (hm.below h.ls.sz h.T.bt h.T.bb), hT, Boxed.mov h.bx hm (h.T.no_box h.bx (by decide)).1 (h.T.no_box h.bx (by decide)).2, hF⟩
theorem putF_len (F : List Pr) (p s : ByteArray) : (putF F p s).length ≤ F.length + 1 ∧ (getF F p ≠ none → (putF F p s).length = F.length) := by
  unfold putF
  by_cases h : F.any (fun q => decide (q.1 = p)) = true
  · rw [if_pos h]
    simp
  · rw [if_neg h]
    refine ⟨by simp, fun hg => absurd ?_ h⟩
    unfold getF at hg
    rw [List.any_eq_true]
    cases hf : F.find? (fun q => decide (q.1 = p)) with
    | none => rw [hf] at hg; exact absurd rfl hg
    | some q => exact ⟨q, List.mem_of_find?_eq_some hf, by simpa using List.find?_some hf⟩
theorem WriteIs.len {p s : ByteArray} {c : Int} {n' : Nat} {F' : List Pr} (h : WriteIs p s n F c n' F') (hF : F.length ≤ 256) : F'.length ≤ 256 ∧ n' ≤ n + 1 := by
  cases h with
  | arg => exact ⟨hF, by omega⟩
  | long => exact ⟨hF, by omega⟩
  | same => exact ⟨hF, by omega⟩
  | full => exact ⟨hF, by omega⟩
  | new h hl hg hf => have := (putF_len F p s).1; exact ⟨by omega, by omega⟩
  | other u h hl hg hu => have := (putF_len F p s).2 (by rw [hg]; simp); exact ⟨by omega, by omega⟩
theorem S1.write (h : S1 w W px left t b bt n F) (hn : n ≤ 100000) (p s : ByteArray) :
    Calls Try.prog 8 #[.pointer (some ⟨t, 0, none⟩), .string p, .string s] W fun e W' => ∃ (c : Int) (n' : Nat) (F' : List Pr), e = .returned (.int .i64 c) ∧ S1 w W' px left t b bt n' F' ∧ n' ≤ n + 1 ∧ Moved t b W W' := by
  refine (write_any h.T (by omega) (by have := h.hF; omega) p s).mono ?_
  rintro e W' ⟨c, n', F', rfl, hw, hT, hm⟩
  obtain ⟨h1, h2⟩ := hw.len h.hF
  exact ⟨c, n', F', rfl, h.mov hm hT h1, h2, hm⟩
theorem S1.remove (h : S1 w W px left t b bt n F) (hn : n ≤ 100000) (p : ByteArray) :
    Calls Try.prog 12 #[.pointer (some ⟨t, 0, none⟩), .string p] W fun e W' => ∃ (c : Int) (n' : Nat) (F' : List Pr), e = .returned (.int .i64 c) ∧ S1 w W' px left t b bt n' F' ∧ n' ≤ n + 1 ∧ Moved t b W W' := by
  refine (remove_any h.T (by omega) p).mono ?_
  rintro e W' ⟨c, n', F', rfl, hw, hT, hm⟩
  have hd : ∀ p, (delF F p).length ≤ F.length := fun p => List.length_filter_le _ _
  have h0 := h.hF
  cases hw with
  | no h1 => exact ⟨_, n, F, rfl, h.mov hm hT h0, by omega, hm⟩
  | yes h1 => exact ⟨0, n + 1, delF F p, rfl, h.mov hm hT (by have := hd p; omega), by omega, hm⟩
end

theorem OwnS.mov {W W' : World} {B t b n base c : Nat} {F : List Pr} {A : Option Addr} {xs : List ByteArray} (h : OwnS W base A c xs) (hT : TreeAt W B t b n F) (hm : Moved t b W W') : OwnS W' base A c xs := by
  refine own_move h (fun k hk => ?_)
  obtain ⟨cells, hc⟩ := own_typed h k hk
  refine hm.block k (OwnS.lt h hk).2 ?_ ?_
  · rintro rfl
    obtain ⟨cs, h1, _⟩ := hT.blk
    have := hc.symm.trans h1
    simp at this
  · rintro rfl
    obtain ⟨es, ck, h1, _⟩ := hT.mo
    rw [hc] at h1
    cases h1

theorem filt_hit {r : List ByteArray} {k : Nat} {x px : ByteArray} (hx : r[k]? = some x) (h : pre x px = true) : (r.take (k + 1)).filter (fun x => pre x px) = (r.take k).filter (fun x => pre x px) ++ [x] := by
  rw [List.take_add_one, hx, List.filter_append]
  simp [h]
theorem filt_miss {r : List ByteArray} {k : Nat} {x px : ByteArray} (hx : r[k]? = some x) (h : pre x px = false) : (r.take (k + 1)).filter (fun x => pre x px) = (r.take k).filter (fun x => pre x px) := by
  rw [List.take_add_one, hx, List.filter_append]
  simp [h]
theorem pre_raw (x px : ByteArray) : pre x px = (decide (px.size ≤ x.size) && ((x.extract 0 px.size).toList == px.toList)) := (Lib.hasPrefix_raw x px).symm
/-- .. and what the tree listed, its slice in a box. -/
structure S2 (w W : World) (px : ByteArray) (left : Int) (t b bt n : Nat) (F : List Pr) (ba : Nat) (A2 : Option Addr) (c2 : Nat) (r : List ByteArray) : Prop where
  s : S1 w W px left t b bt n F
  ba : Boxed W ba 31 (.slice A2 r.length c2)
  own : OwnS W w.heap.size A2 c2 r
section
variable {w W W' : World} {px : ByteArray} {left : Int} {t b bt n : Nat} {F : List Pr} {ba : Nat} {A2 : Option Addr} {c2 : Nat} {r : List ByteArray}
theorem S2.below (h : S2 w W px left t b bt n F ba A2 c2 r) (hb : Below W.heap.size W W') : S2 w W' px left t b bt n F ba A2 c2 r :=
  ⟨h.s.below hb, Boxed.below h.ba hb, OwnS.below h.own hb⟩
theorem S2.mov (h : S2 w W px left t b bt n F ba A2 c2 r) {n' : Nat} {F' : List Pr} (h' : S1 w W' px left t b bt n' F') (hm : Moved t b W W') : S2 w W' px left t b bt n' F' ba A2 c2 r :=
  ⟨h', Boxed.mov h.ba hm (h.s.T.no_box h.ba (by decide)).1 (h.s.T.no_box h.ba (by decide)).2, OwnS.mov h.own h.s.T hm⟩
theorem pre_nil (x : ByteArray) : pre x ⟨#[]⟩ = true := by
  unfold pre
  cases x.data.toList <;> rfl
/-- The tree's own listing: as long as the tree. -/
theorem listed_len {B : Nat} (hT : TreeAt W B t b n F) (hr : Rise r) (hm : ∀ x, x ∈ r ↔ x ∈ F.map Prod.fst ∧ pre x ⟨#[]⟩ = true) : r.length = F.length := by
  have h1 := nodup_len (rise_nodup hr) (N := F.map Prod.fst) (fun x hx => ((hm x).1 hx).1)
  have h2 := nodup_len hT.nodup (N := r) (fun x hx => (hm x).2 ⟨hx, pre_nil x⟩)
  rw [List.length_map] at h1 h2
  omega
theorem S1.listed (h : S1 w W px left t b bt n F) : Calls Try.prog 9 #[.pointer (some ⟨t, 0, none⟩), .string ⟨#[]⟩] W fun e W' =>
    ∃ A c r, e = .returned (.tuple #[.slice A r.length c, .bool true]) ∧ r.length = F.length ∧ Rise r ∧ (∀ x, x ∈ r ↔ x ∈ F.map Prod.fst) ∧ S2 w (W'.alloc (.cells #[.slice A r.length c] 31)) px left t b bt n F W'.heap.size A c r := by
  refine (listed_any h.T h.hF ⟨#[]⟩).mono ?_
  rintro e W' ⟨A, c, r, rfl, ho, hr, hm, hb⟩
  refine ⟨A, c, r, rfl, listed_len h.T hr hm, hr, fun x => by rw [hm x]; simp [pre_nil], (h.below hb).below ((Below.refl _ _).alloc (Nat.le_refl _) _), Boxed.new _ _ _, ?_⟩
  exact (OwnS.lower ho h.ls.bl.size).alloc _
theorem S2.list (h : S2 w W px left t b bt n F ba A2 c2 r) (hr : Rise r) (hm : ∀ x, x ∈ r ↔ x ∈ F.map Prod.fst) : Calls Try.prog 10 #[.pointer (some ⟨t, 0, none⟩), .string px] W fun e W' =>
    ∃ B Bs, e = .returned (.func (.func 28) #[] #[.pointer (some ⟨Bs, 0, none⟩)]) ∧ S2 w W' px left t b bt n F ba A2 c2 r ∧ SeqAt W' B Bs (r.filter (fun x => pre x px)) ∧ t < B ∧ b < B ∧ ba < B ∧ bt < B ∧ w.heap.size + 3 ≤ B ∧ B ≤ W'.heap.size := by
  refine (list_any h.s.T (by have := h.s.hF; omega) px).mono ?_
  rintro e W' ⟨Bs, zs, rfl, hs, hz, hmz, hb⟩
  have hlt := h.s.T.lt
  have e : zs = r.filter (fun x => pre x px) := rise_ext hz (hr.filter _) (fun x => by rw [hmz x, List.mem_filter, hm x])
  rw [← e]
  exact ⟨W.heap.size, Bs, rfl, h.below hb, hs, hlt.1, hlt.2, h.ba.lt, h.s.bx.lt, h.s.ls.sz, hb.size⟩
end
end Go.Proofs.Ytpmeefdegcllkaa
