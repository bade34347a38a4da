/- Link: an edge is laid into the graph. New: the graph of edges. -/
import Derived.Test.YtlccejbomgknkaaGAdd
namespace Go.Proofs.Ytlccejbomgknkaa
set_option linter.unusedVariables false
set_option linter.unusedSimpArgs false
open Go.RowKit Go.Maps Go.Proofs.YtlccejbomgknkaaW.PrintWords Go.Proofs.YtlccejbomgknkaaW.PrintLast

theorem C_two (w : World) (x y : ByteArray) : Kd.C Kd.string (w.alloc (.cells #[.string x, .string y] 9)) (some ⟨w.heap.size, 0, none⟩) [x, y].length [x, y] := by
  refine ⟨rfl, by simp, fun _ => ⟨_, rfl, fun j p hj => ?_⟩⟩
  have hc : (w.alloc (.cells #[.string x, .string y] 9)).heap[w.heap.size]? = some (.cells #[.string x, .string y] 9 (0, 0)) := (MapKept.heap_alloc w _).1
  have hjl : j < 2 := by have := (List.getElem?_eq_some_iff.1 hj).1; simpa using this
  refine ⟨[.string p], rfl, rfl, fun i u hi => ?_⟩
  have hi0 : i = 0 := by have := (List.getElem?_eq_some_iff.1 hi).1; simpa using this
  subst hi0
  simp only [List.getElem?_cons_zero, Option.some.injEq] at hi
  subst hi
  have : j = 0 ∨ j = 1 := by omega
  rcases this with rfl | rfl
  · simp only [List.getElem?_cons_zero, Option.some.injEq] at hj
    subst hj
    show (w.alloc (.cells #[.string x, .string y] 9)).cell? ⟨w.heap.size, 0, none⟩ = _
    unfold World.cell?
    rw [hc]
    rfl
  · simp only [List.getElem?_cons_succ, List.getElem?_cons_zero, Option.some.injEq] at hj
    subst hj
    show (w.alloc (.cells #[.string x, .string y] 9)).cell? ⟨w.heap.size, 1, none⟩ = _
    unfold World.cell?
    rw [hc]
    rfl

theorem GraphAt.alloc {w : World} {B g : Nat} {N : List ByteArray} {E : Rel} (h : GraphAt w B g N E) (o : Obj) : GraphAt (w.alloc o) B g N E := by
  obtain ⟨bo, bi, lo, li, hG⟩ := h
  have hs : ∀ {b : Nat} {S : ByteArray → Prop}, SetAt w b S → SetAt (w.alloc o) b S := fun ⟨s, h1, h2⟩ => ⟨s, h1.alloc o, h2⟩
  exact ⟨bo, bi, lo, li, ⟨(alloc_same w o (Array.getElem?_eq_some_iff.1 hG.cells).1).trans hG.cells, hG.mo.alloc o, hG.mi.alloc o, hG.no, hG.ni, fun p hp => hs (hG.so p hp), fun p hp => hs (hG.si p hp), hG.apart, hG.base, hG.inN⟩⟩
theorem GraphAt.below {w w' : World} {B g : Nat} {N : List ByteArray} {E : Rel} (h : GraphAt w B g N E) (hb : Below w.heap.size w w') : GraphAt w' B g N E := by
  obtain ⟨bo, bi, lo, li, hG⟩ := h
  have hs : ∀ {b : Nat} {S : ByteArray → Prop}, SetAt w b S → SetAt w' b S := fun ⟨s, h1, h2⟩ => ⟨s, h1.below hb h1.lt, h2⟩
  exact ⟨bo, bi, lo, li, ⟨(hb.block _ (Array.getElem?_eq_some_iff.1 hG.cells).1).trans hG.cells, hG.mo.below hb hG.mo.lt, hG.mi.below hb hG.mi.lt, hG.no, hG.ni, fun p hp => hs (hG.so p hp), fun p hp => hs (hG.si p hp), hG.apart, hG.base, hG.inN⟩⟩

/-- A set with one text more. -/
theorem set_put {w' : World} {b : Nat} {s : List ByteArray} {y : ByteArray} {S : ByteArray → Prop} (hS : ∀ x, x ∈ s ↔ S x) (h : MapAt w' b (putE (encS s) y (.bool true))) : SetAt w' b (fun x => S x ∨ x = y) := by
  by_cases hy : y ∈ s
  · refine ⟨s, ?_, fun x => ?_⟩
    · have : putE (encS s) y (.bool true) = encS s := by
        unfold putE
        split
        · refine (List.map_congr_left (fun p hp => ?_)).trans (List.map_id _)
          obtain ⟨z, _, rfl⟩ := List.mem_map.1 hp
          simp only [id]
          split
          · rename_i e; rw [e]
          · rfl
        · rename_i hn
          refine absurd (List.any_eq_true.2 ⟨(y, .bool true), List.mem_map.2 ⟨y, hy, rfl⟩, by simp⟩) hn
      rw [← this]; exact h
    · rw [hS x]
      constructor
      · exact .inl
      · rintro (h1 | rfl)
        · exact h1
        · exact (hS _).1 hy
  · refine ⟨s ++ [y], ?_, fun x => by rw [List.mem_append, hS x, List.mem_singleton]⟩
    have : putE (encS s) y (.bool true) = encS (s ++ [y]) := by
      rw [putE_new]
      · simp [encS]
      · intro p hp e
        obtain ⟨z, hz, rfl⟩ := List.mem_map.1 hp
        exact hy (e ▸ hz)
    rw [← this]; exact h

/-- The graph behind both stores of an edge. -/
theorem Gr.link {w w1 w2 : World} {B g bo bi b1 b2 : Nat} {N s1 s2 : List ByteArray} {E : Rel} {lo li : List (ByteArray × Nat)} {x y : ByteArray} (hG : Gr w B g N E bo bi lo li) (hB : B ≤ w.heap.size)
    (m1 : (x, b1) ∈ lo) (m2 : (y, b2) ∈ li) (e1 : ∀ z, z ∈ s1 ↔ E x z) (e2 : ∀ z, z ∈ s2 ↔ E z y)
    (p1 : MapAt w b1 (encS s1)) (p2 : MapAt w1 b2 (encS s2))
    (h1 : MapAt w1 b1 (putE (encS s1) y (.bool true))) (g1 : w.grownBy w1 (some b1)) (h2 : MapAt w2 b2 (putE (encS s2) x (.bool true))) (g2 : w1.grownBy w2 (some b2)) :
    GraphAt w2 B g N (fun a b => E a b ∨ (a = x ∧ b = y)) ∧ KeptW B w w2 := by
  have hap := hG.apart
  rw [List.nodup_cons, List.nodup_cons, List.nodup_append] at hap
  obtain ⟨ha1, ha2, ha3, ha4, ha5⟩ := hap
  have i1 : b1 ∈ lo.map Prod.snd := List.mem_map.2 ⟨_, m1, rfl⟩
  have i2 : b2 ∈ li.map Prod.snd := List.mem_map.2 ⟨_, m2, rfl⟩
  have nbo1 : bo ≠ b1 := fun e => ha1 (by rw [e]; exact List.mem_cons_of_mem _ (List.mem_append_left _ i1))
  have nbo2 : bo ≠ b2 := fun e => ha1 (by rw [e]; exact List.mem_cons_of_mem _ (List.mem_append_right _ i2))
  have nbi1 : bi ≠ b1 := fun e => ha2 (by rw [e]; exact List.mem_append_left _ i1)
  have nbi2 : bi ≠ b2 := fun e => ha2 (by rw [e]; exact List.mem_append_right _ i2)
  have n12 : b1 ≠ b2 := ha5 b1 i1 b2 i2
  have gl : g < w.heap.size := (Array.getElem?_eq_some_iff.1 hG.cells).1
  have keep : ∀ k, k < w.heap.size → k ≠ b1 → k ≠ b2 → w2.heap[k]? = w.heap[k]? := fun k hk n1 n2 =>
    (g2.block k (Nat.lt_of_lt_of_le hk g1.size) (fun e => by injection e with e; exact n2 e)).trans (g1.block k hk (fun e => by injection e with e; exact n1 e))
  have gne : ∀ {b : Nat} {l : Ents}, MapAt w b l → g ≠ b := by
    intro b l hx e
    obtain ⟨es, clock, hb, _⟩ := hx
    rw [← e, hG.cells] at hb
    cases hb
  have p2w : MapAt w b2 (encS s2) := p2.same (g1.block b2 (by
    obtain ⟨s, hs, _⟩ := hG.si _ m2
    exact hs.lt) (fun e => by injection e with e; exact n12 e.symm)).symm
  have ino : ∀ p ∈ lo, p ∈ lo → p.2 = b1 → p.1 = x := by
    intro p hp _ e
    obtain ⟨i, hi, rfl⟩ := List.getElem_of_mem hp
    obtain ⟨j, hj, hje⟩ := List.getElem_of_mem m1
    have : (lo.map Prod.snd)[i]? = (lo.map Prod.snd)[j]? := by
      rw [List.getElem?_map, List.getElem?_map, List.getElem?_eq_getElem hi, List.getElem?_eq_getElem hj, hje]
      simp [e]
    have hij := (List.getElem?_inj (by simpa using hi) ha3).1 this
    subst hij
    rw [hje]
  have ini : ∀ p ∈ li, p.2 = b2 → p.1 = y := by
    intro p hp e
    obtain ⟨i, hi, rfl⟩ := List.getElem_of_mem hp
    obtain ⟨j, hj, hje⟩ := List.getElem_of_mem m2
    have : (li.map Prod.snd)[i]? = (li.map Prod.snd)[j]? := by
      rw [List.getElem?_map, List.getElem?_map, List.getElem?_eq_getElem hi, List.getElem?_eq_getElem hj, hje]
      simp [e]
    have hij := (List.getElem?_inj (by simpa using hi) ha4).1 this
    subst hij
    rw [hje]
  have ndo : (lo.map Prod.fst).Nodup := by rw [hG.no]; exact hG.nodup
  have ndi : (li.map Prod.fst).Nodup := by rw [hG.ni]; exact hG.nodup
  have one : ∀ {l : List (ByteArray × Nat)} {k : ByteArray} {a b : Nat}, (l.map Prod.fst).Nodup → (k, a) ∈ l → (k, b) ∈ l → a = b := by
    intro l k a b hn ha hb
    have e1 := getE_encM hn ha
    have e2 := getE_encM hn hb
    rw [e1] at e2
    injection e2 with e2; injection e2 with e2; injection e2
  have lt2 : ∀ p ∈ lo, p.2 < w.heap.size := fun p hp => by obtain ⟨s, hs, _⟩ := hG.so p hp; exact hs.lt
  have lt3 : ∀ p ∈ li, p.2 < w.heap.size := fun p hp => by obtain ⟨s, hs, _⟩ := hG.si p hp; exact hs.lt
  refine ⟨⟨bo, bi, lo, li, ⟨(keep g gl (gne p1) (gne p2w)).trans hG.cells, hG.mo.same (keep bo hG.mo.lt nbo1 nbo2), hG.mi.same (keep bi hG.mi.lt nbi1 nbi2), hG.no, hG.ni, ?_, ?_, hG.apart, hG.base, ?_⟩⟩, ?_⟩
  · intro p hp
    by_cases hpx : p.1 = x
    · have hb : p.2 = b1 := one ndo (by rw [← hpx] at m1 ⊢; exact hp) m1
      have h1' : MapAt w2 b1 (putE (encS s1) y (.bool true)) := h1.same (g2.block b1 h1.lt (fun e => by injection e with e; exact n12 e))
      obtain ⟨s, q1, q2⟩ := set_put e1 h1'
      refine ⟨s, by rw [hb]; exact q1, fun z => ?_⟩
      rw [q2 z, hpx]
      constructor
      · rintro (q | q)
        · exact .inl q
        · exact .inr ⟨rfl, q⟩
      · rintro (q | q)
        · exact .inl q
        · exact .inr q.2
    · obtain ⟨s, q1, q2⟩ := hG.so p hp
      have nb1 : p.2 ≠ b1 := fun e => hpx (ino p hp hp e)
      have nb2 : p.2 ≠ b2 := ha5 p.2 (List.mem_map.2 ⟨p, hp, rfl⟩) b2 i2
      refine ⟨s, q1.same (keep p.2 (lt2 p hp) nb1 nb2), fun z => ?_⟩
      rw [q2 z]
      constructor
      · exact .inl
      · rintro (q | q)
        · exact q
        · exact absurd q.1 hpx
  · intro p hp
    by_cases hpy : p.1 = y
    · have hb : p.2 = b2 := one ndi (by rw [← hpy] at m2 ⊢; exact hp) m2
      obtain ⟨s, q1, q2⟩ := set_put e2 h2
      refine ⟨s, by rw [hb]; exact q1, fun z => ?_⟩
      rw [q2 z, hpy]
      constructor
      · rintro (q | q)
        · exact .inl q
        · exact .inr ⟨q, rfl⟩
      · rintro (q | q)
        · exact .inl q
        · exact .inr q.1
    · obtain ⟨s, q1, q2⟩ := hG.si p hp
      have nb2 : p.2 ≠ b2 := fun e => hpy (ini p hp e)
      have nb1 : p.2 ≠ b1 := fun e => ha5 b1 i1 p.2 (List.mem_map.2 ⟨p, hp, rfl⟩) e.symm
      refine ⟨s, q1.same (keep p.2 (lt3 p hp) nb1 nb2), fun z => ?_⟩
      rw [q2 z]
      constructor
      · exact .inl
      · rintro (q | q)
        · exact q
        · exact absurd q.2 hpy
  · rintro a b (q | ⟨rfl, rfl⟩)
    · exact hG.inN a b q
    · exact ⟨by rw [← hG.no]; exact List.mem_map.2 ⟨_, m1, rfl⟩, by rw [← hG.ni]; exact List.mem_map.2 ⟨_, m2, rfl⟩⟩
  · have hb1 := hG.base b1 (by simp only [List.mem_cons, List.mem_append]; exact .inr (.inr (.inr (.inl i1))))
    have hb2 := hG.base b2 (by simp only [List.mem_cons, List.mem_append]; exact .inr (.inr (.inr (.inr i2))))
    exact (KeptW.of_map p1 g1 hb1).trans (KeptW.of_map p2 g2 hb2)

/-- What Link leaves. -/
def Linked (w : World) (B g : Nat) (N : List ByteArray) (E : Rel) (x y : ByteArray) (w' : World) : Prop :=
  ∃ N', GraphAt w' B g N' (fun a b => E a b ∨ (a = x ∧ b = y)) ∧ (∀ z, z ∈ N' ↔ z ∈ N ∨ z = x ∨ z = y) ∧ N'.length ≤ N.length + 2 ∧ KeptW B w w'

theorem Add_two {w : World} {B g : Nat} {N : List ByteArray} {E : Rel} (h : GraphAt w B g N E) (hB : B ≤ w.heap.size) (x y : ByteArray) (hx : x.size ≤ maxLen) (hy : y.size ≤ maxLen) :
    Calls Try.prog 38 #[.pointer (some ⟨g, 0, none⟩), .slice (some ⟨w.heap.size, 0, none⟩) 2 2] (w.alloc (.cells #[.string x, .string y] 9)) fun e w' => e = .returned (.int .i64 0) ∧ Added w B g N [x, y] E w' := by
  have := Add_any (h.alloc (.cells #[.string x, .string y] 9)) (by simp; omega) (some ⟨w.heap.size, 0, none⟩) 2 [x, y] (C_two w x y) (by
    intro z hz
    simp only [List.mem_cons, List.not_mem_nil, or_false] at hz
    rcases hz with rfl | rfl
    · exact hx
    · exact hy)
  refine this.mono ?_
  rintro e w' ⟨h1, N', h2, h3, h4, h5⟩
  have hk : KeptW B w (w.alloc (.cells #[.string x, .string y] 9)) := ⟨(Below.refl _ _).alloc hB _, fun k c e f hk => (alloc_same w _ (Array.getElem?_eq_some_iff.1 hk).1).trans hk⟩
  exact ⟨h1, N', h2, h3, h4, hk.trans h5⟩

set_option maxRecDepth 100000 in
set_option maxHeartbeats 1000000 in
theorem Link_any {w : World} {B g : Nat} {N : List ByteArray} {E : Rel} (h : GraphAt w B g N E) (hB : B ≤ w.heap.size) (x y : ByteArray) (hx : x.size ≤ maxLen) (hy : y.size ≤ maxLen) :
    Calls Try.prog 23 #[.pointer (some ⟨g, 0, none⟩), .string x, .string y] w fun e w' => e = .returned (.int .i64 0) ∧ Linked w B g N E x y w' := by
  have HA := Lib.hid (Add_two h hB x y hx hy)
  have HX := Lib.hid (And.intro hx (And.intro hy hB))
  clear h hx hy hB
  go_enter Try.func23, Try.ntmps23
  go_wp2_with fail
  refine HA.out.mono ?_
  rintro e w1 ⟨rfl, N1, ⟨bo, bi, lo, li, hG⟩, hmem, hlen, hK⟩
  obtain ⟨b1, m1, v1, s1, p1, e1⟩ := hG.outOf (k := x) ((hmem x).2 (.inr (by simp)))
  obtain ⟨b2, m2, v2, s2, p2, e2⟩ := hG.inOf (k := y) ((hmem y).2 (.inr (by simp)))
  have c0 := hG.cell0
  have HG := Lib.hid (And.intro hG (And.intro hmem (And.intro hlen (And.intro hK (And.intro m1 (And.intro m2 (And.intro e1 (And.intro e2 (And.intro p1 p2)))))))))
  have HV := Lib.hid (And.intro v1 v2)
  clear hG hmem hlen hK m1 m2 e1 e2 p1 p2 v1 v2
  go_wp2_with (first | (at_lookup; refine wpList_lookAt _ rfl (.tmp 19) (.tmp 20) 65 rfl 9 70 Try.underlying65 Try.underlying9 (.map none) zero70 bo (encM lo) HG.out.1.mo rfl x rfl (.map (some b1)) (by rw [HV.out.1]; rfl) ?_) | (at_mapUpdate; refine wpList_putAt _ rfl (.tmp 21) (.tmp 22) (.const (.bool true)) 70 rfl 9 4 Try.underlying70 Try.underlying9 b1 (encS s1) HG.out.2.2.2.2.2.2.2.2.1 rfl y rfl HX.out.2.1 (.bool true) rfl ?_))
  intro w2 h1 g1 z1
  have nb : b1 ≠ bi ∧ b1 ≠ b2 := by
    obtain ⟨hG, _, _, _, m1, m2, _⟩ := HG.out
    have hap := hG.apart
    rw [List.nodup_cons, List.nodup_cons, List.nodup_append] at hap
    have i1 : b1 ∈ lo.map Prod.snd := List.mem_map.2 ⟨_, m1, rfl⟩
    exact ⟨fun e => hap.2.1 (by rw [← e]; exact List.mem_append_left _ i1), hap.2.2.2.2 b1 i1 b2 (List.mem_map.2 ⟨_, m2, rfl⟩)⟩
  have c1 : w2.cell? ⟨g, 1, none⟩ = some (.map (some bi)) := g1.cell HG.out.1.cell1 (by
    intro e
    injection e with e
    have e : g = b1 := e
    obtain ⟨es, clock, hb, _⟩ := HG.out.2.2.2.2.2.2.2.2.1
    have := HG.out.1.cells
    rw [e, hb] at this
    cases this)
  have hi2 : MapAt w2 bi (encM li) := HG.out.1.mi.same (g1.block bi HG.out.1.mi.lt (fun e => by injection e with e; exact nb.1 e.symm))
  have hb2 : MapAt w2 b2 (encS s2) := HG.out.2.2.2.2.2.2.2.2.2.same (g1.block b2 HG.out.2.2.2.2.2.2.2.2.2.lt (fun e => by injection e with e; exact nb.2 e.symm))
  have HH := Lib.hid (And.intro h1 (And.intro g1 (And.intro hi2 hb2)))
  clear h1 g1 z1 hi2 hb2 nb c0
  go_wp2_with (first | (at_lookup; refine wpList_lookAt _ rfl (.tmp 26) (.tmp 27) 65 rfl 9 70 Try.underlying65 Try.underlying9 (.map none) zero70 bi (encM li) HH.out.2.2.1 rfl y rfl (.map (some b2)) (by rw [HV.out.2]; rfl) ?_) | (at_mapUpdate; refine wpList_putAt _ rfl (.tmp 28) (.tmp 29) (.const (.bool true)) 70 rfl 9 4 Try.underlying70 Try.underlying9 b2 (encS s2) HH.out.2.2.2 rfl x rfl HX.out.1 (.bool true) rfl ?_))
  intro w3 h2 g2 z2
  have HZ := Lib.hid (And.intro h2 g2)
  clear h2 g2 z2 c1
  go_wp2
  go_ret
  obtain ⟨hG, hmem, hlen, hK, m1, m2, e1, e2, p1, p2⟩ := HG.out
  obtain ⟨h1, g1, hi2, hb2⟩ := HH.out
  obtain ⟨h2, g2⟩ := HZ.out
  obtain ⟨q1, q2⟩ := hG.link (Nat.le_trans HX.out.2.2 hK.below.size) m1 m2 e1 e2 p1 hb2 h1 g1 h2 g2
  refine ⟨rfl, N1, q1, fun z => ?_, hlen, hK.trans q2⟩
  rw [hmem z]
  simp

/-! ### New -/
/-- Two texts in line. -/
def kE : Kd (ByteArray × ByteArray) := Kd.pair Kd.string Kd.string
theorem C_pair_kept {w w' : World} {B : Nat} {A : Option Addr} {n : Nat} {xs : List (ByteArray × ByteArray)} (h : Kd.C kE w A n xs) (hk : KeptW B w w') : Kd.C kE w' A n xs := by
  obtain ⟨h1, h2, h3⟩ := h
  refine ⟨h1, h2, fun hn => ?_⟩
  obtain ⟨ad, hA, hc⟩ := h3 hn
  refine ⟨ad, hA, fun j p hj => ?_⟩
  obtain ⟨c, hl, hR, hcell⟩ := hc j p hj
  exact ⟨c, hl, hR, fun i u hi => hk.cell (hcell i u hi)⟩
theorem at_pair {w : World} {A : Option Addr} {n : Nat} {xs : List (ByteArray × ByteArray)} (h : Kd.C kE w A n xs) (k : Nat) (hk : k < n) : ∃ ad p, xs[k]? = some p ∧ A = some ad ∧ w.cell? (ad.add (k * 2)) = some (.string p.1) ∧ w.cell? ⟨(ad.add (k * 2)).block, (ad.add (k * 2)).off + 1, none⟩ = some (.string p.2) := by
  obtain ⟨h1, _, h3⟩ := h
  obtain ⟨ad, hA, hc⟩ := h3 (by omega)
  have hl : k < xs.length := by omega
  obtain ⟨c, hs, hR, hcell⟩ := hc k xs[k] (List.getElem?_eq_getElem hl)
  obtain ⟨c0, c1, rfl, rfl, rfl⟩ := hR
  refine ⟨ad, xs[k], List.getElem?_eq_getElem hl, hA, hcell 0 _ rfl, ?_⟩
  rw [← add_field _ _ 1 (by omega)]
  exact hcell 1 _ rfl
theorem graph_new (w : World) : GraphAt (((w.alloc (.map #[] 0)).alloc (.map #[] 0)).alloc (.cells #[.map (some w.heap.size), .map (some (w.heap.size + 1))] 67)) w.heap.size (w.heap.size + 1 + 1) [] (fun _ _ => False) := by
  refine ⟨w.heap.size, w.heap.size + 1, [], [], ⟨?_, ?_, ?_, rfl, rfl, fun p hp => (by cases hp), fun p hp => (by cases hp), ?_, ?_, fun _ _ h => False.elim h⟩⟩
  · have := (MapKept.heap_alloc ((w.alloc (.map #[] 0)).alloc (.map #[] 0)) (.cells #[.map (some w.heap.size), .map (some (w.heap.size + 1))] 67)).1
    simpa using this
  · exact ((MapAt.made w).alloc _).alloc _
  · have := (MapAt.made (w.alloc (.map #[] 0))).alloc (.cells #[.map (some w.heap.size), .map (some (w.heap.size + 1))] 67)
    simpa [encM] using this
  · simp
  · intro k hk
    simp only [List.map_nil, List.append_nil, List.mem_cons, List.not_mem_nil, or_false] at hk
    omega

/-- What New leaves behind k of its edges. -/
def Newed (w : World) (g : Nat) (l : List (ByteArray × ByteArray)) (w' : World) : Prop :=
  ∃ N, GraphAt w' w.heap.size g N (fun x y => (x, y) ∈ l) ∧ (∀ z, z ∈ N ↔ ∃ e ∈ l, e.1 = z ∨ e.2 = z) ∧ N.length ≤ 2 * l.length ∧ KeptW w.heap.size w w'

set_option maxRecDepth 100000 in
set_option maxHeartbeats 1000000 in
theorem New_any {w : World} (A : Option Addr) (c : Nat) (l : List (ByteArray × ByteArray)) (hl : Kd.C kE w A l.length l) (hsz : ∀ e ∈ l, e.1.size ≤ maxLen ∧ e.2.size ≤ maxLen) :
    Calls Try.prog 35 #[.slice A l.length c] w fun e w' => e = .returned (.pointer (some ⟨w.heap.size + 1 + 1, 0, none⟩)) ∧ Newed w (w.heap.size + 1 + 1) l w' := by
  have hlen := hl.2.1
  have h0 : Newed w (w.heap.size + 1 + 1) (l.take 0) (((w.alloc (.map #[] 0)).alloc (.map #[] 0)).alloc (.cells #[.map (some w.heap.size), .map (some (w.heap.size + 1))] 67)) :=
    ⟨[], by simpa using graph_new w, by simp, by simp, ⟨(((Below.refl _ _).alloc (Nat.le_refl _) _).alloc (by simp) _).alloc (by simp; omega) _, fun k c e f hk => by
      have hlt := (Array.getElem?_eq_some_iff.1 hk).1
      exact (alloc_same _ _ (by simp; omega)).trans ((alloc_same _ _ (by simp; omega)).trans ((alloc_same _ _ hlt).trans hk))⟩⟩
  have H0 := Lib.hid h0
  have HL := Lib.hid hl
  have HS := Lib.hid hsz
  have hmm := @run_makeMap Try.prog
  clear h0 hl hsz
  go_enter Try.func35, Try.ntmps35
  go_wp2
  go_loopg [12] (l.length + 1) (fun q v wr => ∃ k : Nat, v = .int .i64 k ∧ k ≤ l.length ∧ q + k = l.length + 1 ∧ Hid (Newed w (w.heap.size + 1 + 1) (l.take k) wr))
  case atStart => exact ⟨0, rfl, by omega, by omega, H0⟩
  case round =>
    obtain ⟨k, rfl, hk, hq, HA⟩ := hrel
    clear H0
    by_cases hlt : k < l.length
    · obtain ⟨N', hG', hmem, hln, hK⟩ := HA.out
      obtain ⟨ad, p, hp, hA, hc0, hc1⟩ := at_pair (C_pair_kept HL.out hK) k hlt
      subst hA
      obtain ⟨x, y⟩ := p
      have HP := Lib.hid hp
      have hxy := HS.out _ (List.mem_of_getElem? hp)
      have HC := Lib.hid (Link_any (hG'.alloc (.cells #[.string x, .string y] 45)) (by have := hK.below.size; simp; omega) x y hxy.1 hxy.2)
      have HO := Lib.hid (And.intro hmem (And.intro hln hK))
      clear hG' hmem hln hK hp hxy
      go_wp2_with fail
      refine HC.out.mono ?_
      rintro e w2 ⟨rfl, hL⟩
      have HZ := Lib.hid hL
      clear hL
      go_wp2
      go_roundg (l.length - k)
      case measure => omega
      case rel =>
        obtain ⟨N1, q1, q2, q3, q4⟩ := HZ.out
        obtain ⟨hmem, hln, hK⟩ := HO.out
        have htk : l.take (k + 1) = l.take k ++ [(x, y)] := by
          rw [List.take_succ_eq_append_getElem hlt]
          have := HP.out
          rw [List.getElem?_eq_getElem hlt] at this
          rw [Option.some.inj this]
        refine ⟨k + 1, by go_num, by omega, by omega, ⟨N1, ?_, fun z => ?_, ?_, ?_⟩⟩
        · rw [htk]
          have : (fun a b => (a, b) ∈ l.take k ++ [(x, y)]) = (fun a b => (a, b) ∈ l.take k ∨ (a = x ∧ b = y)) := by
            funext a b
            simp
          rw [this]
          exact q1
        · rw [q2 z, hmem z, htk]
          constructor
          · rintro (⟨e, he, h⟩ | rfl | rfl)
            · exact ⟨e, List.mem_append_left _ he, h⟩
            · exact ⟨(z, y), by simp, .inl rfl⟩
            · exact ⟨(x, z), by simp, .inr rfl⟩
          · rintro ⟨e, he, h⟩
            rcases List.mem_append.1 he with he | he
            · exact .inl ⟨e, he, h⟩
            · rw [List.mem_singleton.1 he] at h
              rcases h with h | h
              · exact .inr (.inl h.symm)
              · exact .inr (.inr h.symm)
        · rw [List.length_take] at hln ⊢
          omega
        · have hal : KeptW w.heap.size wr (wr.alloc (.cells #[.string x, .string y] 45)) := ⟨(Below.refl _ _).alloc hK.below.size _, fun k c e f hk => (alloc_same _ _ (Array.getElem?_eq_some_iff.1 hk).1).trans hk⟩
          exact hK.trans (hal.trans q4)
    · have hkl : k = l.length := by omega
      rw [hkl, List.take_length] at HA
      clear hkl
      go_wp2
      go_ret
      exact ⟨rfl, HA.out⟩
end Go.Proofs.Ytlccejbomgknkaa
