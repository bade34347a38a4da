/- TreeLists: the state of the last loop. -/
import Derived.Test.YtpmeefdegcllkaaTOnce
namespace Go.Proofs.Ytpmeefdegcllkaa
set_option linter.unusedVariables false
set_option linter.unusedSimpArgs false
open Go.RowKit Go.Shelf Go.Maps Go.Proofs.YtpmeefdegcllkaaW.PrintWords Go.Proofs.YtpmeefdegcllkaaW.PrintLast

theorem TreeAt.low {w w' : World} {B t b n N : Nat} {F : List Pr} (h : TreeAt w B t b n F) (hb : Below N w w') (h1 : t < N) (h2 : b < N) : TreeAt w' B t b n F := by
  obtain ⟨⟨cs, hc, h3⟩, hm, h4, h5⟩ := h
  exact ⟨⟨cs, (hb.block t h1).trans hc, h3⟩, hm.same (hb.block b h2), h4, h5⟩
theorem OwnS.low {w w' : World} {base c N : Nat} {A : Option Addr} {xs : List ByteArray} (h : OwnS w base A c xs) (hb : Below N w w') (hk : ∀ k, (Value.slice A xs.length c).ownBlock = some k → k < N) : OwnS w' base A c xs :=
  own_move h (fun k e => hb.block k (hk k e))
theorem slice_cap {w : World} {base c : Nat} {A : Option Addr} {xs : List ByteArray} (h : OwnS w base A c xs) : xs.length ≤ c := by
  rcases h.2 with ⟨e, h0⟩ | ⟨g, cap, cur, e, _, _, hle, _⟩
  · omega
  · injection e with e1 e2 e3
    omega
structure L2 (w W : World) (px : ByteArray) (left : Int) (t b bt ba : Nat) (A2 : Option Addr) (c2 : Nat) (r : List ByteArray) (N N0 : Nat) (A3 : Option Addr) (c3 : Nat) (zs : List ByteArray) (D m : Nat) : Prop where
  ex : ∃ n F, S2 w W px left t b bt n F ba A2 c2 r ∧ n ≤ m
  ow : OwnS W N0 A3 c3 zs
  df : W.heap[D]? = some (.deferred (some []))
  sz : N ≤ W.heap.size
  lt : w.heap.size + 3 ≤ N ∧ t < N ∧ b < N ∧ bt < N ∧ ba < N ∧ D < N
  r1 : ∀ k, (Value.slice A2 r.length c2).ownBlock = some k → k < N
  r2 : ∀ k, (Value.slice A3 zs.length c3).ownBlock = some k → k < N
section
variable {w W W' : World} {px : ByteArray} {left : Int} {t b bt ba : Nat} {A2 : Option Addr} {c2 : Nat} {r : List ByteArray} {N N0 : Nat} {A3 : Option Addr} {c3 : Nat} {zs : List ByteArray} {D m : Nat}
theorem L2.low (h : L2 w W px left t b bt ba A2 c2 r N N0 A3 c3 zs D m) (hb : Below N W W') : L2 w W' px left t b bt ba A2 c2 r N N0 A3 c3 zs D m := by
  obtain ⟨⟨n, F, hS, hn⟩, ow, df, sz, ⟨l1, l2, l3, l4, l5, l6⟩, r1, r2⟩ := h
  refine ⟨⟨n, F, ⟨⟨hS.s.ls.step (hb.mono l1), hS.s.T.low hb l2 l3, Boxed.low hS.s.bx hb l4, hS.s.hF⟩, Boxed.low hS.ba hb l5, OwnS.low hS.own hb r1⟩, hn⟩, OwnS.low ow hb r2, (hb.block D l6).trans df, Nat.le_trans sz hb.size, ⟨l1, l2, l3, l4, l5, l6⟩, r1, r2⟩
theorem L2.from (M : Nat) (hM : N ≤ M) (f : List ByteArray → Nat) : OwnFrom M (fun pre W => L2 w W px left t b bt ba A2 c2 r N N0 A3 c3 zs D (f pre)) := fun s X Y row hs hg hr =>
  hs.low ⟨hg.os, hg.tape, hg.output, hg.size, fun k hk => hg.block k (by have := hs.sz; omega) (fun e => by have := (hr k e.symm).1; omega)⟩
theorem L2.moved (h : L2 w W px left t b bt ba A2 c2 r N N0 A3 c3 zs D m) {n' m' : Nat} {F' : List Pr} (h' : S1 w W' px left t b bt n' F') (hm : Moved t b W W') (hn : n' ≤ m') : L2 w W' px left t b bt ba A2 c2 r N N0 A3 c3 zs D m' := by
  obtain ⟨⟨n, F, hS, _⟩, ow, df, sz, lt, r1, r2⟩ := h
  refine ⟨⟨n', F', hS.mov h' hm, hn⟩, OwnS.mov ow hS.s.T hm, (hm.block D (Array.getElem?_eq_some_iff.1 df).1 ?_ ?_).trans df, Nat.le_trans sz hm.size, lt, r1, r2⟩
  · rintro rfl
    obtain ⟨cs, h1, _⟩ := hS.s.T.blk
    rw [df] at h1
    cases h1
  · rintro rfl
    obtain ⟨es, ck, h1, _⟩ := hS.s.T.mo
    rw [df] at h1
    cases h1
theorem L2.remove (h : L2 w W px left t b bt ba A2 c2 r N N0 A3 c3 zs D m) (hm : m ≤ 100000) (p : ByteArray) :
    Calls Try.prog 12 #[.pointer (some ⟨t, 0, none⟩), .string p] W fun e W' => ∃ c : Int, e = .returned (.int .i64 c) ∧ L2 w W' px left t b bt ba A2 c2 r N N0 A3 c3 zs D (m + 1) ∧ Moved t b W W' := by
  obtain ⟨n, F, hS, hn⟩ := h.ex
  refine (hS.s.remove (by omega) p).mono ?_
  rintro e W' ⟨c, n', F', rfl, h1, h2, h3⟩
  exact ⟨c, rfl, h.moved h1 h3 (by omega), h3⟩
theorem L2.write (h : L2 w W px left t b bt ba A2 c2 r N N0 A3 c3 zs D m) (hm : m ≤ 100000) (p s : ByteArray) :
    Calls Try.prog 8 #[.pointer (some ⟨t, 0, none⟩), .string p, .string s] W fun e W' => ∃ c : Int, e = .returned (.int .i64 c) ∧ L2 w W' px left t b bt ba A2 c2 r N N0 A3 c3 zs D (m + 1) ∧ Moved t b W W' := by
  obtain ⟨n, F, hS, hn⟩ := h.ex
  refine (hS.s.write (by omega) p s).mono ?_
  rintro e W' ⟨c, n', F', rfl, h1, h2, h3⟩
  exact ⟨c, rfl, h.moved h1 h3 (by omega), h3⟩
theorem L2.ls (h : L2 w W px left t b bt ba A2 c2 r N N0 A3 c3 zs D m) : LS w W px left := by
  obtain ⟨n, F, hS, hn⟩ := h.ex
  exact hS.s.ls
theorem L2.bx (h : L2 w W px left t b bt ba A2 c2 r N N0 A3 c3 zs D m) : Boxed W bt 25 (.pointer (some ⟨t, 0, none⟩)) ∧ Boxed W ba 31 (.slice A2 r.length c2) := by
  obtain ⟨n, F, hS, hn⟩ := h.ex
  exact ⟨hS.s.bx, hS.ba⟩
/-- What the loop has collected stays where the tree alone turns. -/
theorem got_moved {bg : Nat} {v : Value} {xs : List ByteArray} {base : Nat} (hm : Moved t b W W') (h : Boxed W bg 31 v ∧ W.ownsRow base 9 1 v xs.length (xs.map Value.string)) (h1 : t < bg) (h2 : b < bg) (h3 : bg ≤ base) : Boxed W' bg 31 v ∧ W'.ownsRow base 9 1 v xs.length (xs.map Value.string) := by
  refine ⟨Boxed.mov h.1 hm (by omega) (by omega), own_move h.2 (fun k e => ?_)⟩
  have := World.ownsRow.lt h.2 k e
  exact hm.block k this.2 (by omega) (by omega)
theorem Moved.keepsFrom (h : Moved t b W W') {M : Nat} (h1 : t < M) (h2 : b < M) : KeepsFrom M W W' :=
  ⟨h.size, fun k o hk ho _ => (h.block k (Array.getElem?_eq_some_iff.1 ho).1 (by omega) (by omega)).trans ho⟩
theorem Moved.kp (h : Moved t b W W') {n₀ : Nat} (hn : n₀ ≤ W.heap.size) : Kp n₀ t b W W' := fun k hk h1 h2 => h.block k (by omega) h1 h2
end
end Go.Proofs.Ytpmeefdegcllkaa
