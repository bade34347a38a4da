/- Texts of this claim, merged; of each text just what the theorem uses: GRefD, GOpen, GRefG, GFinds, GTellA, GTellB, GTells -/
import Derived.Test.YtlccejbomgknkaaQT4
import Derived.SliceStrings
import Derived.Deep.SlicePairs
import Derived.Lib.SliceRun
import Derived.Lib.EndianMore
import Derived.BigFrame
namespace Go.Proofs.Ytlccejbomgknkaa
set_option linter.unusedVariables false
set_option linter.unusedSimpArgs false
set_option linter.unusedSectionVars false
open Go.RowKit Go.Maps Go.Proofs.YtlccejbomgknkaaW.PrintWords Go.Proofs.YtlccejbomgknkaaW.PrintLast
open PGraphFinds
structure BelowAt (gn asked : List ByteArray) (E : Rel) (o0 nw : List ByteArray) (i : Nat) (P : ByteArray → Prop) : Prop where
  l0 : o0.length ≤ asked.length
  nd : nw.Nodup
  ng : ∀ z ∈ nw, z ∈ gn
  sound : ∀ z ∈ o0 ++ nw, ∃ a ∈ asked, a ∈ gn ∧ Reach E a z
  all : ∀ a ∈ asked, a ∈ gn → a ∈ o0 ++ nw
  closed : ∀ j z, j < i → (o0 ++ nw)[j]? = some z → ∀ y, E z y → y ∈ o0 ++ nw
  part : ∀ y, P y → y ∈ o0 ++ nw
section
variable {gn asked : List ByteArray} {l : List S45} (hb : l.length ≤ 1000) (hg : gn.length ≤ 100000) (ha : asked.length ≤ 100000) (hE : ∀ x y, edg l x y → x ∈ gn ∧ y ∈ gn)
include hb hg ha hE
theorem BelowAt.len {o0 nw : List ByteArray} {i : Nat} {P : ByteArray → Prop} (h : BelowAt gn asked (edg l) o0 nw i P) : (o0 ++ nw).length ≤ asked.length + gn.length := by
  have h1 := nodup_len h.nd h.ng
  have h2 := h.l0
  rw [List.length_append]
  omega
end
end Go.Proofs.Ytlccejbomgknkaa
namespace Go.Proofs.Ytlccejbomgknkaa
set_option linter.unusedVariables false
set_option linter.unusedSimpArgs false
open Go.RowKit Go.Maps Go.Proofs.YtlccejbomgknkaaW.PrintWords Go.Proofs.YtlccejbomgknkaaW.PrintLast
open Go.ChangeShapes Go.WideShapes
theorem pairs_of {w : World} {a : Addr} {n : Nat} (hn : n ≤ 9223372036854775807) (h : ∀ i, i < n → ∃ s t : ByteArray, w.cell? (a.add (i * 2)) = some (.string s) ∧ w.cell? (a.add (i * 2 + 1)) = some (.string t) ∧ s.size ≤ maxLen ∧ t.size ≤ maxLen) :
    ∃ l : List (ByteArray × ByteArray), n = l.length ∧ Kd.C kE w (some a) l.length l ∧ ∀ e ∈ l, e.1.size ≤ maxLen ∧ e.2.size ≤ maxLen := by
  have h' : ∀ i, ∃ p : ByteArray × ByteArray, i < n → w.cell? (a.add (i * 2)) = some (.string p.1) ∧ w.cell? (a.add (i * 2 + 1)) = some (.string p.2) ∧ p.1.size ≤ maxLen ∧ p.2.size ≤ maxLen := by
    intro i
    by_cases hi : i < n
    · obtain ⟨s, t, h1⟩ := h i hi
      exact ⟨(s, t), fun _ => h1⟩
    · exact ⟨(ByteArray.empty, ByteArray.empty), fun h => absurd h hi⟩
  obtain ⟨F, hF⟩ := Classical.axiomOfChoice h'
  have hlen : ((List.range n).map F).length = n := by simp
  refine ⟨(List.range n).map F, hlen.symm, ⟨rfl, by rw [hlen]; exact hn, fun _ => ⟨a, rfl, fun j p hj => ?_⟩⟩, fun e he => ?_⟩
  · rw [List.getElem?_map] at hj
    obtain ⟨j', hj', rfl⟩ := Option.map_eq_some_iff.1 hj
    have hjn : j < n := by have := (List.getElem?_eq_some_iff.1 hj').1; simpa using this
    rw [List.getElem?_range hjn] at hj'
    injection hj' with hj'
    subst hj'
    obtain ⟨c1, c2, _, _⟩ := hF j hjn
    refine ⟨[.string (F j).1, .string (F j).2], rfl, ⟨[.string (F j).1], [.string (F j).2], rfl, rfl, rfl⟩, fun i u hu => ?_⟩
    match i, hu with
    | 0, hu => injection hu with hu; rw [← hu]; exact c1
    | 1, hu => injection hu with hu; rw [← hu]; exact c2
  · obtain ⟨j, hj, rfl⟩ := List.mem_map.1 he
    exact (hF j (List.mem_range.1 hj)).2.2
theorem texts_of {w : World} {a : Addr} {n : Nat} {ss : List ByteArray} (hn : n ≤ 9223372036854775807) (hl : n ≤ ss.length) (hc : ∀ i, i < ss.length → w.cell? (a.add i) = some (.string (ss.getD i ByteArray.empty))) (hs : ∀ s ∈ ss, s.size ≤ maxLen) :
    ∃ l : List ByteArray, n = l.length ∧ Kd.C Kd.string w (some a) l.length l ∧ ∀ x ∈ l, x.size ≤ maxLen := by
  have hlen : (ss.take n).length = n := by rw [List.length_take]; omega
  refine ⟨ss.take n, hlen.symm, ⟨rfl, by rw [hlen]; exact hn, fun _ => ⟨a, rfl, fun j p hj => ?_⟩⟩, fun x hx => hs x (List.mem_of_mem_take hx)⟩
  rw [List.getElem?_take] at hj
  split at hj
  · have hjl := (List.getElem?_eq_some_iff.1 hj).1
    refine ⟨[.string p], rfl, rfl, fun i u hu => ?_⟩
    have hi0 : i = 0 := by have := (List.getElem?_eq_some_iff.1 hu).1; simpa using this
    subst hi0
    simp only [List.getElem?_cons_zero, Option.some.injEq] at hu
    subst hu
    have := hc j hjl
    rw [List.getD_eq_getElem?_getD, hj] at this
    simpa [show Kd.string.sz = 1 from rfl] using this
  · cases hj
section
variable {H : Type} {enc : TypeId × Value → H} {W : World} {A : Option Addr} {n c : Nat} {d : DataW H} {p : List MemPlace}
theorem edges_in (h : DataW.Trod enc Try.prog W 0 (fun _ => true) true 22 (.slice A n c) d p) : ∃ l : List (ByteArray × ByteArray), n = l.length ∧ Kd.C kE W A l.length l ∧ ∀ e ∈ l, e.1.size ≤ maxLen ∧ e.2.size ≤ maxLen := by
  obtain ⟨fuel, hf⟩ := h
  rcases Go.Deep.open_slice_pairs Try.underlying22 Try.underlying45 (by kernel_rfl) rfl rfl (by kernel_rfl) (by kernel_rfl) hf with ⟨hcs, _⟩ | ⟨x, l, k, m, q, V0, V1, D0, D1, P0, P1, hcs, _, hl, hm, hmm, _, hx⟩
  · simp [Value.cells] at hcs
    obtain ⟨rfl, rfl, rfl⟩ := hcs
    exact ⟨[], rfl, kE_empty _ _, by simp⟩
  · simp [Value.cells] at hcs
    obtain ⟨rfl, rfl, rfl⟩ := hcs
    simp only [if_true] at hmm
    refine pairs_of (by unfold maxLen at hm; omega) fun i hi => ?_
    obtain ⟨h1, h2, h3, h4⟩ := hx i (by omega)
    obtain ⟨s, e1, _, s1⟩ := DataW.trod_string Try.underlying9 h3
    obtain ⟨t, e2, _, s2⟩ := DataW.trod_string Try.underlying9 h4
    injection e1 with e1
    injection e2 with e2
    exact ⟨s, t, by rw [h1, e1], by rw [h2, e2], s1, s2⟩
end
end Go.Proofs.Ytlccejbomgknkaa
namespace Go.Proofs.Ytlccejbomgknkaa
set_option linter.unusedVariables false
set_option linter.unusedSimpArgs false
open Go.RowKit Go.Maps Go.Proofs.YtlccejbomgknkaaW.PrintWords Go.Proofs.YtlccejbomgknkaaW.PrintLast
open Go.ChangeShapes Go.WideShapes
section
variable {H : Type} {enc : TypeId × Value → H} {W : World} {A : Option Addr} {n c : Nat} {d : DataW H} {p : List MemPlace}
theorem texts_in2 (h : DataW.Trod enc Try.prog W 0 (fun _ => true) true 23 (.slice A n c) d p) : ∃ l : List ByteArray, n = l.length ∧ (Kd.C Kd.string W A l.length l ∧ l.length ≤ c ∧ (A = none → c = 0)) ∧ ∀ x ∈ l, x.size ≤ maxLen := by
  obtain ⟨fuel, hf⟩ := h
  rcases open_strings Try.underlying23 Try.underlying9 (by kernel_rfl) hf with ⟨hcs, _⟩ | ⟨x, l, k, ss, hcs, _, hl, hm, hz, _, hcell, hsz⟩
  · simp [Value.cells] at hcs
    obtain ⟨rfl, rfl, rfl⟩ := hcs
    exact ⟨[], rfl, ⟨C_empty _ _, by simp, fun _ => rfl⟩, by simp⟩
  · simp [Value.cells] at hcs
    obtain ⟨rfl, rfl, rfl⟩ := hcs
    simp only [if_true] at hz
    obtain ⟨l', e, hC, hS⟩ := texts_of (n := n) (by unfold maxLen at hm; omega) (by omega) hcell hsz
    exact ⟨l', e, ⟨hC, by omega, fun h => by cases h⟩, hS⟩
end
def toS (p : Pr) : PGraphFinds.S45 := ⟨p.1, p.2⟩
theorem C_to_k45 {w : World} {A : Option Addr} {n : Nat} {xs : List Pr} (h : Kd.C kE w A n xs) : Kd.C PGraphFinds.k45 w A n (xs.map toS) := by
  obtain ⟨h1, h2, h3⟩ := h
  refine ⟨by rw [List.length_map]; exact h1, h2, fun hn => ?_⟩
  obtain ⟨ad, hA, hc⟩ := h3 hn
  refine ⟨ad, hA, fun j p hj => ?_⟩
  rw [List.getElem?_map] at hj
  obtain ⟨x, hx, rfl⟩ := Option.map_eq_some_iff.1 hj
  exact hc j x hx
theorem edg_toS (xs : List Pr) : edg (xs.map toS) = fun x y => (x, y) ∈ xs := by
  funext x y
  unfold edg
  refine propext ⟨?_, fun h => ⟨toS (x, y), List.mem_map.2 ⟨_, h, rfl⟩, rfl, rfl⟩⟩
  rintro ⟨e, he, rfl, rfl⟩
  obtain ⟨p, hp, rfl⟩ := List.mem_map.1 he
  exact hp
structure RefAt (w : World) (An : Option Addr) (cn : Nat) (rn : List ByteArray) (Ae : Option Addr) (ce : Nat) (re : List Pr) : Prop where
  n : Kd.C Kd.string w An rn.length rn
  nc : rn.length ≤ cn
  nn : An = none → cn = 0
  e : Kd.C kE w Ae re.length re
  ec : re.length ≤ ce
  ln : rn.length ≤ 1000
  le : re.length ≤ 1000
  inN : ∀ x y, (x, y) ∈ re → x ∈ rn ∧ y ∈ rn
section
variable {w w' : World} {An Ae : Option Addr} {cn ce : Nat} {rn : List ByteArray} {re : List Pr}
theorem RefAt.below (h : RefAt w An cn rn Ae ce re) (hb : Below w.heap.size w w') : RefAt w' An cn rn Ae ce re :=
  ⟨Kd.C_below h.n hb, h.nc, h.nn, Kd.C_below h.e hb, h.ec, h.ln, h.le, h.inN⟩
abbrev memb (re : List Pr) : Rel := fun x y => (x, y) ∈ re
theorem refOut_any (h : RefAt w An cn rn Ae ce re) (a : ByteArray) :
    Calls Try.prog 28 #[.agg #[.slice An rn.length cn, .slice Ae re.length ce], .string a] w fun e w' => ∃ (A : Option Addr) (c : Nat) (r : List ByteArray), e = .returned (.slice A r.length c) ∧ Rise r ∧ (∀ z, z ∈ r ↔ (a, z) ∈ re) ∧ Kd.C Kd.string w' A r.length r ∧ Below w.heap.size w w' := by
  have hll : (re.map toS).length = re.length := List.length_map _
  obtain ⟨r, ⟨k, hk⟩, hw1, hw2⟩ := out_ev rn (l := re.map toS) (by rw [hll]; have := h.le; omega) a
  have hc := PGraphFinds.brickyardref19_Out.calls k An cn rn Ae ce (re.map toS) a r w h.n h.nc (by rw [hll]; exact C_to_k45 h.e) (by rw [hll]; exact h.ec) (hk k (Nat.le_refl _))
  rw [hll] at hc
  rw [edg_toS] at hw2
  refine hc.mono ?_
  rintro e w' ⟨v, rfl, hR, hb⟩
  obtain ⟨A, c, rfl⟩ := Kd.R_slice hR
  exact ⟨A, c, r, rfl, hw1, hw2, (Kd.R_reads' hR).2.2, hb⟩
end
theorem OfIs.ref {w w' : World} {l : List Pr} {names : List ByteArray} {e : Ending} (h : OfIs w l names e w') (h1 : l.length ≤ 300) (h2 : names.length ≤ 300) :
    ∃ (An : Option Addr) (cn : Nat) (rn : List ByteArray) (Ae : Option Addr) (ce : Nat) (re : List Pr), e = .returned (.agg #[.slice An rn.length cn, .slice Ae re.length ce]) ∧ RefAt w' An cn rn Ae ce re ∧ Rise rn ∧ (∀ z, z ∈ rn ↔ z ∈ names ∨ ∃ e ∈ l, e.1 = z ∨ e.2 = z) ∧ RiseP re ∧ (∀ p, p ∈ re ↔ p ∈ l) ∧ Below w.heap.size w w' := by
  obtain ⟨An, cn, rn, Ae, ce, re, rfl, hR, hE, g1, g2, g3, g4, hb⟩ := h
  have hle : re.length ≤ l.length := nodup_lenP (riseP_nodup g3) (fun p hp => (g4 p).1 hp)
  have hln : rn.length ≤ (names ++ flatN l).length := nodup_len (rise_nodup g1) (fun z hz => by
    rw [List.mem_append, flatN_mem]
    exact (g2 z).1 hz)
  rw [List.length_append, flatN_len] at hln
  refine ⟨An, cn, rn, Ae, ce, re, rfl, ⟨(Kd.R_reads' hR).2.2, (Kd.R_reads' hR).2.1, R_none hR, hE.reads (by omega), hE.cap, by omega, by omega, fun x y h => ?_⟩, g1, g2, g3, g4, hb⟩
  exact ⟨(g2 x).2 (.inr ⟨(x, y), (g4 _).1 h, .inl rfl⟩), (g2 y).2 (.inr ⟨(x, y), (g4 _).1 h, .inr rfl⟩)⟩
theorem refTurn_any {w : World} {An Ae : Option Addr} {cn ce : Nat} {rn : List ByteArray} {re : List Pr} (h : RefAt w An cn rn Ae ce re) (hr : Rise rn) (h1 : re.length ≤ 300) (h2 : rn.length ≤ 300) :
    Calls Try.prog 19 #[.agg #[.slice An rn.length cn, .slice Ae re.length ce]] w fun e w' => ∃ (Am : Option Addr) (cm : Nat) (Af : Option Addr) (cf : Nat) (rf : List Pr), e = .returned (.agg #[.slice Am rn.length cm, .slice Af rf.length cf]) ∧ RefAt w' Am cm rn Af cf rf ∧ RiseP rf ∧ (∀ x y, (x, y) ∈ rf ↔ (y, x) ∈ re) ∧ Below w.heap.size w w' := by
  refine (Turn_any An cn rn Ae ce re h.n h.nn h.e (by omega) (by omega)).mono ?_
  intro e w' hof
  obtain ⟨Am, cm, rm, Af, cf, rf, rfl, hA, g1, g2, g3, g4, hb⟩ := hof.ref (by rw [List.length_map]; exact h1) h2
  have e : rm = rn := rise_ext g1 hr (fun z => by
    rw [g2 z]
    refine ⟨fun h0 => h0.elim id ?_, fun h0 => .inl h0⟩
    rintro ⟨q, hq, hz⟩
    obtain ⟨p, hp, rfl⟩ := List.mem_map.1 hq
    have := h.inN p.1 p.2 hp
    rcases hz with rfl | rfl
    · exact this.2
    · exact this.1)
  subst e
  refine ⟨Am, cm, Af, cf, rf, rfl, hA, g3, fun x y => ?_, hb⟩
  rw [g4 (x, y), List.mem_map]
  constructor
  · rintro ⟨p, hp, he⟩
    injection he with h3 h4
    rw [← h3, ← h4]
    exact hp
  · exact fun hp => ⟨(y, x), hp, rfl⟩
end Go.Proofs.Ytlccejbomgknkaa
namespace Go.Proofs.Ytlccejbomgknkaa
set_option linter.unusedVariables false
set_option linter.unusedSimpArgs false
open Go.RowKit Go.Maps Go.Proofs.YtlccejbomgknkaaW.PrintWords Go.Proofs.YtlccejbomgknkaaW.PrintLast Go.Proofs.YtlccejbomgknkaaW.PrintMore
structure Both (w w2 : World) (g : Nat) (N : List ByteArray) (l : List Pr) (An : Option Addr) (cn : Nat) (rn : List ByteArray) (Ae : Option Addr) (ce : Nat) (re : List Pr) : Prop where
  gr : GraphAt w2 w.heap.size g N (memb l)
  nl : N.length ≤ 1000000
  bl : Below w.heap.size w w2
  rf : RefAt w2 An cn rn Ae ce re
  rise : Rise rn
  riseE : RiseP re
  eN : ∀ z, z ∈ rn ↔ z ∈ N
  eE : ∀ p, p ∈ re ↔ p ∈ l
  le : re.length ≤ 300
  ln : rn.length ≤ 300
theorem Both.below {w w2 w3 : World} {g : Nat} {N : List ByteArray} {l : List Pr} {An : Option Addr} {cn : Nat} {rn : List ByteArray} {Ae : Option Addr} {ce : Nat} {re : List Pr} (h : Both w w2 g N l An cn rn Ae ce re) (hb : Below w2.heap.size w2 w3) : Both w w3 g N l An cn rn Ae ce re :=
  { h with gr := h.gr.below hb, bl := h.bl.trans (hb.mono h.bl.size), rf := h.rf.below hb }
theorem Both.same {w w2 : World} {g : Nat} {N : List ByteArray} {l : List Pr} {An : Option Addr} {cn : Nat} {rn : List ByteArray} {Ae : Option Addr} {ce : Nat} {re : List Pr} (h : Both w w2 g N l An cn rn Ae ce re) : memb re = memb l := by
  funext x y
  exact propext (h.eE (x, y))
theorem both_of {w w2 w3 : World} {g : Nat} {N : List ByteArray} {l : List Pr} {names : List ByteArray} {e : Ending} (hG : GraphAt w2 w.heap.size g N (fun x y => (x, y) ∈ l)) (hN : ∀ z, z ∈ N ↔ z ∈ names ∨ ∃ e ∈ l, e.1 = z ∨ e.2 = z) (hln : N.length ≤ 1000000) (hb : Below w.heap.size w w2) (h1 : l.length ≤ 40) (h2 : names.length ≤ 20) (ho : OfIs w2 l names e w3) :
    ∃ (An : Option Addr) (cn : Nat) (rn : List ByteArray) (Ae : Option Addr) (ce : Nat) (re : List Pr), e = .returned (.agg #[.slice An rn.length cn, .slice Ae re.length ce]) ∧ Both w w3 g N l An cn rn Ae ce re := by
  obtain ⟨An, cn, rn, Ae, ce, re, rfl, hA, g1, g2, g3, g4, hb3⟩ := ho.ref (by omega) (by omega)
  have hle : re.length ≤ l.length := nodup_lenP (riseP_nodup g3) (fun p hp => (g4 p).1 hp)
  have hln : rn.length ≤ (names ++ flatN l).length := nodup_len (rise_nodup g1) (fun z hz => by
    rw [List.mem_append, flatN_mem]
    exact (g2 z).1 hz)
  rw [List.length_append, flatN_len] at hln
  exact ⟨An, cn, rn, Ae, ce, re, rfl, hG.below hb3, by assumption, hb.trans (hb3.mono hb.size), hA, g1, g3, fun z => by rw [g2 z, hN z], g4, by omega, by omega⟩
structure FS (w wr : World) (b12 g : Nat) (N : List ByteArray) (l : List Pr) (An : Option Addr) (cn : Nat) (rn : List ByteArray) (Ae : Option Addr) (ce : Nat) (re : List Pr) : Prop where
  both : Both w wr g N l An cn rn Ae ce re
  blk : wr.heap[b12]? = some (.cells #[.slice An rn.length cn, .slice Ae re.length ce] 29 (0, 0))
section
variable {w wr w' : World} {b12 g : Nat} {N : List ByteArray} {l : List Pr} {An : Option Addr} {cn : Nat} {rn : List ByteArray} {Ae : Option Addr} {ce : Nat} {re : List Pr}
theorem FS.below (h : FS w wr b12 g N l An cn rn Ae ce re) (hb : Below wr.heap.size wr w') : FS w w' b12 g N l An cn rn Ae ce re :=
  ⟨h.both.below hb, (hb.block _ (Array.getElem?_eq_some_iff.1 h.blk).1).trans h.blk⟩
theorem FS.cells (h : FS w wr b12 g N l An cn rn Ae ce re) : wr.cell? ⟨b12, 0, none⟩ = some (.slice An rn.length cn) ∧ wr.cell? ⟨b12, 1, none⟩ = some (.slice Ae re.length ce) := by
  constructor <;> simp [World.cell?, h.blk]
theorem FS.way (h : FS w wr b12 g N l An cn rn Ae ce re) (x y : ByteArray) :
    Calls Try.prog 12 #[.pointer (some ⟨g, 0, none⟩), .string x, .string y] wr fun e w' => ∃ (A : Option Addr) (c : Nat) (p : List ByteArray) (ok : Bool), e = .returned (.tuple #[.slice A p.length c, .bool ok]) ∧ ((ok = true ∧ ∃ d, x ∈ N ∧ y ∈ N ∧ Dist (memb l) x y d ∧ GW (memb l) y d x p) ∨ (ok = false ∧ p = [] ∧ ¬ (x ∈ N ∧ y ∈ N ∧ Reach (memb l) x y))) ∧ Kd.C Kd.string w' A p.length p ∧ FS w w' b12 g N l An cn rn Ae ce re := by
  refine (Way_any h.both.gr h.both.nl x y).mono ?_
  rintro e w' ⟨hb, ⟨A, c, p, d, rfl, hx, hy, hd, hg, ho⟩ | ⟨rfl, hno⟩⟩
  · exact ⟨A, c, p, true, rfl, .inl ⟨rfl, d, hx, hy, hd, hg⟩, ho.reads, h.below hb⟩
  · exact ⟨none, 0, [], false, rfl, .inr ⟨rfl, rfl, hno⟩, C_empty _ _, h.below hb⟩
theorem FS.turn (h : FS w wr b12 g N l An cn rn Ae ce re) {r : List ByteArray} {A0 : Option Addr} (hC : Kd.C Kd.string wr A0 r.length r) :
    Calls Try.prog 19 #[.agg #[.slice An rn.length cn, .slice Ae re.length ce]] wr fun e w' => ∃ (Am : Option Addr) (cm : Nat) (Af : Option Addr) (cf : Nat) (rf : List Pr), e = .returned (.agg #[.slice Am rn.length cm, .slice Af rf.length cf]) ∧ (RefAt w' Am cm rn Af cf rf ∧ ∀ x y, (x, y) ∈ rf ↔ (y, x) ∈ re) ∧ Kd.C Kd.string w' A0 r.length r ∧ FS w w' b12 g N l An cn rn Ae ce re := by
  refine (refTurn_any h.both.rf h.both.rise h.both.le h.both.ln).mono ?_
  rintro e w' ⟨Am, cm, Af, cf, rf, rfl, hA, _, hm, hb⟩
  exact ⟨Am, cm, Af, cf, rf, rfl, ⟨hA, hm⟩, Kd.C_below hC hb, h.below hb⟩
theorem FS.equal (h : FS w wr b12 g N l An cn rn Ae ce re) (A1 A2 : Option Addr) (c1 c2 : Nat) (xs : List ByteArray) (h1 : Kd.C Kd.string wr A1 xs.length xs) (h2 : Kd.C Kd.string wr A2 xs.length xs) :
    Calls Try.prog 14 #[.slice A1 xs.length c1, .slice A2 xs.length c2] wr fun e w' => e = .returned (.bool true) ∧ FS w w' b12 g N l An cn rn Ae ce re := by
  refine (Equal_any A1 A2 c1 c2 xs xs h1 h2).mono ?_
  rintro e w' ⟨rfl, q, rfl⟩
  exact ⟨by simp, h.below (pw_below_drewN (Below.refl _ _) q)⟩
end
end Go.Proofs.Ytlccejbomgknkaa
namespace Go.Proofs.Ytlccejbomgknkaa
set_option linter.unusedVariables false
set_option linter.unusedSimpArgs false
open Go.RowKit Go.Maps Go.Proofs.YtlccejbomgknkaaW.PrintWords Go.Proofs.YtlccejbomgknkaaW.PrintLast Go.Proofs.YtlccejbomgknkaaW.PrintMore
attribute [local go_sem high] eqA45
theorem riseP_ext {r s : List Pr} (hr : RiseP r) (hs : RiseP s) (h : ∀ x, x ∈ r ↔ x ∈ s) : r = s := by
  have hp : r.Perm s := (List.perm_ext_iff_of_nodup (riseP_nodup hr) (riseP_nodup hs)).2 h
  refine hp.eq_of_pairwise (le := plt) ?_ hr hs
  intro a b _ _ h1 h2
  exact absurd (plt_trans h1 h2) (plt_irrefl a)
theorem rise_lt {l : List ByteArray} (h : Rise l) {i : Nat} {x y : ByteArray} (hx : l[i]? = some x) (hy : y ∈ l.take i) : bs y < bs x := by
  obtain ⟨j, hj⟩ := List.getElem?_of_mem hy
  rw [List.getElem?_take] at hj
  split at hj
  · rename_i hji
    obtain ⟨h1, e1⟩ := List.getElem?_eq_some_iff.1 hx
    obtain ⟨h2, e2⟩ := List.getElem?_eq_some_iff.1 hj
    have := List.pairwise_iff_getElem.1 h j i h2 h1 hji
    rw [e1, e2] at this
    exact this
  · cases hj
set_option maxRecDepth 100000 in
set_option maxHeartbeats 4000000 in
theorem EqE_any {w : World} (A1 A2 : Option Addr) (c1 c2 : Nat) (xs : List Pr) (h1 : Kd.C kE w A1 xs.length xs) (h2 : Kd.C kE w A2 xs.length xs) :
    Calls Try.prog 25 #[.slice A1 xs.length c1, .slice A2 xs.length c2] w fun e w' => e = .returned (.bool true) ∧ ∃ q, w' = w.drewN q := by
  have hlen := h1.2.1
  have HX := Lib.hid (And.intro h1 h2)
  clear h1 h2
  have hnn : ((xs.length : Int) != (xs.length : Int)) = false := by simp
  go_enter Try.func25, Try.ntmps25
  go_wp2_with fail
  go_loopg [5, 13] (xs.length + 1) (fun q v5 v13 wr => ∃ i qq : Nat, v13 = .int .i64 i ∧ i ≤ xs.length ∧ q + i = xs.length + 1 ∧ wr = w.drewN qq)
  case atStart => exact ⟨0, 0, rfl, by omega, by omega, rfl⟩
  case round =>
    obtain ⟨i, qq, rfl, hi, hq, rfl⟩ := hrel
    by_cases hlt : i < xs.length
    · obtain ⟨ad, pr, hpr, hA, hc0, hc1⟩ := at_pair HX.out.1 i hlt
      obtain ⟨ad2, pr2, hpr2, hA2, hd0, hd1⟩ := at_pair HX.out.2 i hlt
      have e : pr2 = pr := by
        rw [hpr] at hpr2
        injection hpr2 with hpr2
        exact hpr2.symm
      subst e
      subst hA
      subst hA2
      clear hpr hpr2
      have hiI : (i : Int) < (xs.length : Int) := by omega
      have hi0 : (0 : Int) ≤ (i : Int) := by omega
      have hb1 : (pr2.1.toList == pr2.1.toList) = true := beq_self_eq_true _
      have hb2 : (pr2.2.toList == pr2.2.toList) = true := beq_self_eq_true _
      go_wp2_with fail
      go_quiet (fail)
      go_wp2_with fail
      go_roundg (xs.length - i)
      case measure => omega
      case rel => exact ⟨i + 1, _, by go_num, by omega, by omega, rfl⟩
    · go_wp2_with fail
      go_ret
      exact ⟨rfl, qq, rfl⟩
section
variable {w : World} {ops : Array Oper} {rest : List Oper} {o : Oper} {a : Act} {Q : Exit → Act → World → Prop}
theorem wpList_pushE (hg : o.guard = none) (s x : Operand) (hop : o.op = .call { callee := .builtin .append, args := #[s, x], argTypes := #[22, 22] })
    (base c n : Nat) (A : Option Addr) (xs : List Pr) (hown : OwnE w base A c xs) (hn : Hid (n = xs.length)) (hs : a.eval s = .slice A n c) (p : Pr) (hx : a.eval x = .slice (some ⟨w.heap.size, 0, none⟩) 1 1) (hlen : n < 100000000) (hbase : base ≤ w.heap.size)
    (hK : ∀ (A' : Option Addr) (c' : Nat) (w' : World), OwnE w' base A' c' (xs ++ [p]) → w.grownBy w' (Value.slice A n c).ownBlock → wpList Try.prog ops Q rest (a.put o.dst (.slice A' (n + 1) c')) w') :
    wpList Try.prog ops Q (o :: rest) a (w.alloc (.cells #[.string p.1, .string p.2] 45)) := by
  have hn' := hn.out
  subst hn'
  obtain ⟨i0, hi, hz0, hz1, hz2⟩ := info_parts infoE
  refine wpList_append_own _ hg s x 22 hop base 45 i0 (.agg #[(.string ⟨#[]⟩), (.string ⟨#[]⟩)]) 2 32 Try.underlying22 hi hz0 hz1 hz2 rfl (by decide) _ xs.length (flat2 xs) hs (World.ownsRow.alloc hown _) ⟨w.heap.size, 0, none⟩ 1 1 (flat2 [p]) hx rfl new_cells (one_flat2 [p]) (by unfold maxLen; omega) (by omega) (by simp; omega) ?_
  intro v' w' h1 h2 h3
  obtain ⟨g', cap', rfl⟩ := Go.ownsRow_succ h1
  refine hK (some ⟨g', 0, none⟩) cap' w' ?_ ((World.grownBy_alloc w _ _).trans h2)
  unfold OwnE
  rw [List.length_append, flat2_append]
  exact h1
end
structure EdS (w wr : World) (A : Option Addr) (c n : Nat) (P : Pr → Prop) (M : Nat) : Prop where
  ex : ∃ xs, n = xs.length ∧ OwnE wr w.heap.size A c xs ∧ RiseP xs ∧ (∀ p, p ∈ xs ↔ P p) ∧ xs.length ≤ M
  bl : Below w.heap.size w wr
theorem EdS.below {w wr w' : World} {A : Option Addr} {c n : Nat} {P : Pr → Prop} {M : Nat} (h : EdS w wr A c n P M) (hb : Below wr.heap.size wr w') : EdS w w' A c n P M := by
  obtain ⟨⟨xs, h1, h2, h3⟩, hbl⟩ := h
  exact ⟨⟨xs, h1, OwnE.below h2 hb, h3⟩, hbl.trans (hb.mono hbl.size)⟩
theorem EdS.congr {w wr : World} {A : Option Addr} {c n : Nat} {P P' : Pr → Prop} {M M' : Nat} (h : EdS w wr A c n P M) (hp : ∀ p, P p ↔ P' p) (hm : M ≤ M') : EdS w wr A c n P' M' := by
  obtain ⟨⟨xs, h1, h2, h3, h4, h5⟩, hbl⟩ := h
  exact ⟨⟨xs, h1, h2, h3, fun p => (h4 p).trans (hp p), by omega⟩, hbl⟩
theorem R_pushE {w w' : World} {b base n c : Nat} {A : Option Addr} {v : Value} {r : List ByteArray} {xs : List Pr} (hR : Kd.R Kd.string 9 w b (fun _ => True) v r) (ho : OwnE w base A c xs) (hn : n = xs.length) (hg : w.grownBy w' (Value.slice A n c).ownBlock) : Kd.R Kd.string 9 w' b (fun _ => True) v r := by
  subst hn
  refine Kd.R_mono (Kd.R_grown (Kd.R_bound hR) hg (fun k hk e => ?_)) (fun _ _ => trivial)
  obtain ⟨_, _, _, q, hq, cells, hc⟩ := hk
  obtain ⟨cells2, hc2⟩ := own_typed ho k e.symm
  rw [hc] at hc2
  injection hc2 with hc2
  injection hc2 with _ hc2
  have : q = 9 := by simpa [Kd.string, Kd.scalar] using hq
  rw [this] at hc2
  exact absurd hc2 (by decide)
theorem EdS.push {w wr w' : World} {A A2 : Option Addr} {c c2 n : Nat} {xs : List Pr} {P : Pr → Prop} {M : Nat} {p : Pr} (hx : n = xs.length ∧ OwnE wr w.heap.size A c xs ∧ RiseP xs ∧ (∀ p, p ∈ xs ↔ P p) ∧ xs.length ≤ M) (hbl : Below w.heap.size w wr) (hown : OwnE w' w.heap.size A2 c2 (xs ++ [p])) (hg : wr.grownBy w' (Value.slice A n c).ownBlock) (hlt : ∀ q, P q → plt q p) : EdS w w' A2 c2 (n + 1) (fun q => P q ∨ q = p) (M + 1) := by
  obtain ⟨h1, h2, h3, h4, h5⟩ := hx
  refine ⟨⟨xs ++ [p], by rw [List.length_append, h1]; rfl, hown, ?_, fun q => ?_, by rw [List.length_append, List.length_singleton]; omega⟩, hbl.grown hg hbl.size (fun k e => (OwnE.lt h2 (k := k) (by rw [← h1]; exact e)).1)⟩
  · unfold RiseP
    rw [List.pairwise_append]
    refine ⟨h3, List.pairwise_singleton _ _, fun a ha b hb => ?_⟩
    rw [List.mem_singleton] at hb
    subst hb
    exact hlt a ((h4 a).1 ha)
  · rw [List.mem_append, List.mem_singleton, h4 q]
theorem mem_take_next {l : List ByteArray} {i : Nat} {x : ByteArray} (h : l[i]? = some x) (y : ByteArray) : y ∈ l.take (i + 1) ↔ y ∈ l.take i ∨ y = x := by
  rw [List.take_add_one, h, List.mem_append]
  simp
set_option maxRecDepth 100000 in
set_option maxHeartbeats 4000000 in
theorem Edges_any {w : World} {B g : Nat} {N : List ByteArray} {E : Rel} (h : GraphAt w B g N E) (hN : N.length ≤ 1000) :
    Calls Try.prog 26 #[.pointer (some ⟨g, 0, none⟩)] w fun e w' => ∃ (A : Option Addr) (c : Nat) (re : List Pr), e = .returned (.slice A re.length c) ∧ RiseP re ∧ (∀ x y, (x, y) ∈ re ↔ E x y) ∧ re.length ≤ 1000000 ∧ OwnE w' w.heap.size A c re ∧ Below w.heap.size w w' := by
  have hin : ∀ x y, E x y → x ∈ N ∧ y ∈ N := by
    obtain ⟨bo, bi, lo, li, hG⟩ := h
    exact hG.inN
  have HN := Lib.hid (Names_any h (by omega))
  have X := Lib.hid (And.intro h (And.intro hin hN))
  clear h hin hN
  go_enter Try.func26, Try.ntmps26
  go_wp2_with fail
  refine HN.out.mono ?_
  rintro e w1 ⟨v, rn, rfl, hrise, hmem, hR, hb1⟩
  obtain ⟨An, cn, rfl⟩ := Kd.R_slice hR
  have hrl : rn.length ≤ 1000 := Nat.le_trans (nodup_len (rise_nodup hrise) (fun z hz => (hmem z).1 hz)) X.out.2.2
  have Y : Hid (Rise rn ∧ (∀ x, x ∈ rn ↔ x ∈ N)) := ⟨hrise, hmem⟩
  have H0 : Hid (EdS w w1 none 0 0 (fun p => p.1 ∈ rn.take 0 ∧ E p.1 p.2) (0 * 1000) ∧ Kd.R Kd.string 9 w1 w.heap.size (fun _ => True) (.slice An rn.length cn) rn) := ⟨⟨⟨[], rfl, OwnE.nil _ _, List.Pairwise.nil, by simp, by simp⟩, hb1⟩, hR⟩
  clear hrise hmem hR hb1 HN
  go_wp2_with fail
  go_loopg [3, 5, 7, 11, 19] (rn.length + 1) (fun q v3 v5 v7 v11 v19 wr => ∃ (i n c : Nat) (A : Option Addr), v3 = .slice A n c ∧ v11 = .int .i64 i ∧ i ≤ rn.length ∧ q + i = rn.length + 1 ∧ Hid (EdS w wr A c n (fun p => p.1 ∈ rn.take i ∧ E p.1 p.2) (i * 1000) ∧ Kd.R Kd.string 9 wr w.heap.size (fun _ => True) (.slice An rn.length cn) rn))
  case atStart => exact ⟨0, 0, 0, none, rfl, rfl, by omega, by omega, H0.out⟩
  case round =>
    obtain ⟨i, n, c, A, rfl, rfl, hi, hq, HA⟩ := hrel
    clear H0
    obtain ⟨W1, rfl⟩ : ∃ W1 : World, W1 = wr := ⟨_, rfl⟩
    obtain ⟨q0, rfl⟩ : ∃ q0 : Nat, q0 = gk := ⟨_, rfl⟩
    by_cases hlt : i < rn.length
    · obtain ⟨ao, hA, hcell⟩ := Kd.at_string (Kd.R_reads' HA.out.2).2.2 (i : Int) (by omega) (by omega)
      subst hA
      have hpk := has_at hlt
      obtain ⟨nm, hnm⟩ : ∃ nm, nm = rdOf ByteArray.empty rn (i : Int) := ⟨_, rfl⟩
      rw [← hnm] at hcell hpk
      simp only [Int.toNat_natCast] at hcell
      have HPK := Lib.hid hpk
      have HO := Lib.hid (Out_any (X.out.1.below HA.out.1.bl) (by have := X.out.2.2; omega) nm)
      clear hnm hpk
      go_wp2_with fail
      refine HO.out.mono ?_
      rintro e W2 ⟨v, r, rfl, hrise, hmem, hR, hb2⟩
      obtain ⟨Ar, cr, rfl⟩ := Kd.R_slice hR
      have hrr : r.length ≤ 1000 := Nat.le_trans (nodup_len (rise_nodup hrise) (fun z hz => (X.out.2.1 _ _ ((hmem z).1 hz)).2)) X.out.2.2
      have P2 : Hid (Rise r ∧ (∀ x, x ∈ r ↔ E nm x)) := ⟨hrise, hmem⟩
      have H2 : Hid (EdS w W2 A c n (fun p => (p.1 ∈ rn.take i ∧ E p.1 p.2) ∨ (p.1 = nm ∧ p.2 ∈ r.take 0)) (i * 1000 + 0) ∧ Kd.R Kd.string 9 W2 w.heap.size (fun _ => True) (.slice (some ao) rn.length cn) rn ∧ Kd.R Kd.string 9 W2 W1.heap.size (fun _ => True) (.slice Ar r.length cr) r) := ⟨(HA.out.1.below hb2).congr (fun p => by simp) (by omega), Kd.R_below HA.out.2 hb2, hR⟩
      clear hrise hmem hR hb2 HO HA
      go_wp2_with fail
      go_loopg [3, 7, 19] (r.length + 1) (fun q2 v3 v7 v19 wr => ∃ (j n c : Nat) (A : Option Addr), v3 = .slice A n c ∧ v19 = .int .i64 j ∧ j ≤ r.length ∧ q2 + j = r.length + 1 ∧ Hid (EdS w wr A c n (fun p => (p.1 ∈ rn.take i ∧ E p.1 p.2) ∨ (p.1 = nm ∧ p.2 ∈ r.take j)) (i * 1000 + j) ∧ Kd.R Kd.string 9 wr w.heap.size (fun _ => True) (.slice (some ao) rn.length cn) rn ∧ Kd.R Kd.string 9 wr W1.heap.size (fun _ => True) (.slice Ar r.length cr) r))
      case atStart => exact ⟨0, n, c, A, rfl, rfl, by omega, by omega, H2.out⟩
      case round =>
        obtain ⟨j, n, c, A, rfl, rfl, hj, hq2, HB⟩ := hrel
        clear H2
        by_cases hjl : j < r.length
        · obtain ⟨ar, hA, hcell2⟩ := Kd.at_string (Kd.R_reads' HB.out.2.2).2.2 (j : Int) (by omega) (by omega)
          subst hA
          have hpj := has_at hjl
          obtain ⟨mv, hmv⟩ : ∃ nm, nm = rdOf ByteArray.empty r (j : Int) := ⟨_, rfl⟩
          rw [← hmv] at hcell2 hpj
          simp only [Int.toNat_natCast] at hcell2
          have HPJ := Lib.hid hpj
          clear hmv hpj
          obtain ⟨xs, hxs⟩ := HB.out.1.ex
          have hn : n ≤ 2000000 := by
            obtain ⟨h1, _, _, _, h5⟩ := hxs
            omega
          have HX := Lib.hid hxs
          have HL : Hid (n = xs.length) := hxs.1
          have hbs : w.heap.size ≤ wr.heap.size := HB.out.1.bl.size
          clear hxs
          go_wp2_with (at_builtin; refine wpList_pushE rfl (.tmp 23) (.tmp 27) rfl w.heap.size c n A xs HX.out.2.1 HL rfl (nm, mv) rfl (by omega) hbs ?_)
          intro A2 c2 W3 hown hgr
          have HC : Hid (EdS w W3 A2 c2 (n + 1) (fun p => (p.1 ∈ rn.take i ∧ E p.1 p.2) ∨ (p.1 = nm ∧ p.2 ∈ r.take (j + 1))) (i * 1000 + (j + 1)) ∧ Kd.R Kd.string 9 W3 w.heap.size (fun _ => True) (.slice (some ao) rn.length cn) rn ∧ Kd.R Kd.string 9 W3 W1.heap.size (fun _ => True) (.slice (some ar) r.length cr) r) := by
            refine ⟨(EdS.push HX.out HB.out.1.bl hown hgr ?_).congr (fun p => ?_) (by omega), R_pushE HB.out.2.1 HX.out.2.1 HL.out hgr, R_pushE HB.out.2.2 HX.out.2.1 HL.out hgr⟩
            · rintro p (⟨hp, _⟩ | ⟨hp, hp2⟩)
              · exact .inl (rise_lt Y.out.1 HPK.out hp)
              · exact .inr ⟨hp, rise_lt P2.out.1 HPJ.out hp2⟩
            · rw [mem_take_next HPJ.out]
              constructor
              · rintro ((h | ⟨h1, h2⟩) | rfl)
                · exact .inl h
                · exact .inr ⟨h1, .inl h2⟩
                · exact .inr ⟨rfl, .inr rfl⟩
              · rintro (h | ⟨h1, h2 | h2⟩)
                · exact .inl (.inl h)
                · exact .inl (.inr ⟨h1, h2⟩)
                · exact .inr (Prod.ext h1 h2)
          clear hown hgr HX HL HB hbs
          go_wp2_with fail
          go_roundg (r.length - j)
          case measure => omega
          case rel => exact ⟨j + 1, n + 1, c2, A2, rfl, by go_num, by omega, by omega, HC⟩
        · go_wp2_with fail
          go_roundg (rn.length - i)
          case measure => omega
          case rel =>
            refine ⟨i + 1, n, c, A, rfl, by go_num, by omega, by omega, HB.out.1.congr (fun p => ?_) (by omega), HB.out.2.1⟩
            have ht : r.take j = r := List.take_of_length_le (by omega)
            rw [mem_take_next HPK.out, ht, P2.out.2 p.2]
            constructor
            · rintro (⟨h1, h2⟩ | ⟨h1, h2⟩)
              · exact ⟨.inl h1, h2⟩
              · exact ⟨.inr h1, by rw [h1]; exact h2⟩
            · rintro ⟨h1 | h1, h2⟩
              · exact .inl ⟨h1, h2⟩
              · exact .inr ⟨h1, by rw [← h1]; exact h2⟩
    · obtain ⟨xs, h1, h2, h3, h4, h5⟩ := HA.out.1.ex
      have FIN : Hid (∃ (A' : Option Addr) (c' : Nat) (re : List Pr), (Ending.returned (.slice A n c)) = .returned (.slice A' re.length c') ∧ RiseP re ∧ (∀ x y, (x, y) ∈ re ↔ E x y) ∧ re.length ≤ 1000000 ∧ OwnE W1 w.heap.size A' c' re ∧ Below w.heap.size w W1) := by
        refine ⟨A, c, xs, by rw [h1], h3, fun x y => ?_, by omega, h2, HA.out.1.bl⟩
        rw [h4 (x, y), List.take_of_length_le (by omega), Y.out.2 x]
        exact ⟨fun h => h.2, fun h => ⟨(X.out.2.1 _ _ h).1, h⟩⟩
      clear h1 h2 h3 h4 h5
      go_wp2_with fail
      go_ret
      exact FIN.out
end Go.Proofs.Ytlccejbomgknkaa
namespace Go.Proofs.Ytlccejbomgknkaa
set_option linter.unusedVariables false
set_option linter.unusedSimpArgs false
open Go.RowKit Go.Maps Go.Proofs.YtlccejbomgknkaaW.PrintWords Go.Proofs.YtlccejbomgknkaaW.PrintLast Go.Proofs.YtlccejbomgknkaaW.PrintMore
theorem GraphAt.sizes {w : World} {B g : Nat} {N : List ByteArray} {E : Rel} (h : GraphAt w B g N E) : ∀ z ∈ N, z.size ≤ maxLen := by
  obtain ⟨bo, bi, lo, li, hG⟩ := h
  obtain ⟨es, clock, _, _, _, hs⟩ := hG.mo
  intro z hz
  rw [← hG.no] at hz
  obtain ⟨p, hp, rfl⟩ := List.mem_map.1 hz
  exact hs (p.1, .map (some p.2)) (List.mem_map.2 ⟨p, hp, rfl⟩)
theorem GraphAt.inN {w : World} {B g : Nat} {N : List ByteArray} {E : Rel} (h : GraphAt w B g N E) : ∀ x y, E x y → x ∈ N ∧ y ∈ N := by
  obtain ⟨bo, bi, lo, li, hG⟩ := h
  exact hG.inN
structure TuS (w wr : World) (gt : Nat) (P : ByteArray → Prop) (F : Rel) : Prop where
  ex : ∃ N', GraphAt wr w.heap.size gt N' F ∧ ∀ z, z ∈ N' ↔ P z
  bl : Below w.heap.size w wr
theorem TuS.below {w wr w' : World} {gt : Nat} {P : ByteArray → Prop} {F : Rel} (h : TuS w wr gt P F) (hb : Below wr.heap.size wr w') : TuS w w' gt P F := by
  obtain ⟨⟨N', h1, h2⟩, h3⟩ := h
  exact ⟨⟨N', h1.below hb, h2⟩, h3.trans (hb.mono h3.size)⟩
theorem TuS.congr {w wr : World} {gt : Nat} {P P' : ByteArray → Prop} {F F' : Rel} (h : TuS w wr gt P F) (hp : ∀ z, P z ↔ P' z) (hf : ∀ x y, F x y ↔ F' x y) : TuS w wr gt P' F' := by
  obtain ⟨⟨N', h1, h2⟩, h3⟩ := h
  have e : F = F' := by funext x y; exact propext (hf x y)
  subst e
  exact ⟨⟨N', h1, fun z => (h2 z).trans (hp z)⟩, h3⟩
theorem TuS.add {w wr : World} {gt : Nat} {P : ByteArray → Prop} {F : Rel} (h : TuS w wr gt P F) (A : Option Addr) (c : Nat) (l : List ByteArray) (hl : Kd.C Kd.string wr A l.length l) (hs : ∀ x ∈ l, x.size ≤ maxLen) :
    Calls Try.prog 38 #[.pointer (some ⟨gt, 0, none⟩), .slice A l.length c] wr fun e w' => e = .returned (.int .i64 0) ∧ TuS w w' gt (fun z => P z ∨ z ∈ l) F ∧ KeptW w.heap.size wr w' := by
  obtain ⟨⟨N', h1, h2⟩, h3⟩ := h
  refine (Add_any h1 h3.size A c l hl hs).mono ?_
  rintro e w' ⟨rfl, N2, g1, g2, _, g4⟩
  exact ⟨rfl, ⟨⟨N2, g1, fun z => by rw [g2 z, h2 z]⟩, h3.trans g4.below⟩, g4⟩
theorem TuS.link {w wr : World} {gt : Nat} {P : ByteArray → Prop} {F : Rel} (h : TuS w wr gt P F) (x y : ByteArray) (hx : x.size ≤ maxLen) (hy : y.size ≤ maxLen) :
    Calls Try.prog 23 #[.pointer (some ⟨gt, 0, none⟩), .string x, .string y] wr fun e w' => e = .returned (.int .i64 0) ∧ TuS w w' gt (fun z => P z ∨ z = x ∨ z = y) (fun a b => F a b ∨ (a = x ∧ b = y)) ∧ KeptW w.heap.size wr w' := by
  obtain ⟨⟨N', h1, h2⟩, h3⟩ := h
  refine (Link_any h1 h3.size x y hx hy).mono ?_
  rintro e w' ⟨rfl, N2, g1, g2, _, g4⟩
  exact ⟨rfl, ⟨⟨N2, g1, fun z => by rw [g2 z, h2 z]⟩, h3.trans g4.below⟩, g4⟩
set_option maxRecDepth 100000 in
set_option maxHeartbeats 4000000 in
theorem TurnP_any {w : World} {B g : Nat} {N : List ByteArray} {E : Rel} (h : GraphAt w B g N E) (hN : N.length ≤ 1000) :
    Calls Try.prog 24 #[.pointer (some ⟨g, 0, none⟩)] w fun e w' => ∃ gt, e = .returned (.pointer (some ⟨gt, 0, none⟩)) ∧ TuS w w' gt (fun z => z ∈ N) (fun x y => E y x) := by
  have X := Lib.hid (And.intro h hN)
  clear h hN
  have H1 : Hid (Calls Try.prog 35 #[.slice none 0 0] w fun e w' => ∃ gt, e = .returned (.pointer (some ⟨gt, 0, none⟩)) ∧ TuS w w' gt (fun z => False) (fun x y => False)) := by
    refine (New_any (w := w) none 0 [] (kE_empty _ _) (by simp)).mono ?_
    rintro e w' ⟨rfl, N0, h1, h2, _, h4⟩
    refine ⟨_, rfl, TuS.congr ⟨⟨N0, h1, fun z => h2 z⟩, h4.below⟩ (fun z => by simp) (fun x y => by simp)⟩
  go_enter Try.func24, Try.ntmps24
  go_wp2_with fail
  refine H1.out.mono ?_
  rintro e w1 ⟨gt, rfl, hT⟩
  have T1 := Lib.hid hT
  have H2 := Lib.hid (Names_any (X.out.1.below hT.bl) (by have := X.out.2; omega))
  clear hT H1
  go_wp2_with fail
  refine H2.out.mono ?_
  rintro e w2 ⟨v, rn, rfl, hrise, hmem, hR, hb2⟩
  obtain ⟨An, cn, rfl⟩ := Kd.R_slice hR
  have H3 := Lib.hid ((T1.out.below hb2).add An cn rn (Kd.R_reads' hR).2.2 (fun z hz => X.out.1.sizes z ((hmem z).1 hz)))
  have M2 := Lib.hid hmem
  clear hrise hmem hR hb2 H2 T1
  go_wp2_with fail
  refine H3.out.mono ?_
  rintro e w3 ⟨rfl, hT, _⟩
  have T3 : Hid (TuS w w3 gt (fun z => z ∈ N) (fun x y => False)) := hT.congr (fun z => by rw [M2.out z]; simp) (fun x y => Iff.rfl)
  have H4 := Lib.hid (Edges_any (X.out.1.below hT.bl) X.out.2)
  clear hT H3
  go_wp2_with fail
  refine H4.out.mono ?_
  rintro e w4 ⟨Ae, ce, re, rfl, hrise, hmem, hre, hown, hb4⟩
  have T4 : Hid (TuS w w4 gt (fun z => z ∈ N) (fun x y => (y, x) ∈ re.take 0) ∧ Kd.C kE w4 Ae re.length re) := ⟨(T3.out.below hb4).congr (fun z => Iff.rfl) (fun x y => by simp), hown.reads hre⟩
  have M4 := Lib.hid hmem
  clear hrise hmem hown hb4 H4 T3
  go_wp2_with fail
  go_loopg [5, 16] (re.length + 1) (fun q v5 v16 wr => ∃ k : Nat, v16 = .int .i64 k ∧ k ≤ re.length ∧ q + k = re.length + 1 ∧ Hid (TuS w wr gt (fun z => z ∈ N) (fun x y => (y, x) ∈ re.take k) ∧ Kd.C kE wr Ae re.length re))
  case atStart => exact ⟨0, rfl, by omega, by omega, T4.out⟩
  case round =>
    obtain ⟨k, rfl, hk, hq, HA⟩ := hrel
    clear T4
    by_cases hlt : k < re.length
    · obtain ⟨ad, p, hp, hA, hc0, hc1⟩ := at_pair HA.out.2 k hlt
      subst hA
      obtain ⟨x, y⟩ := p
      have HP := Lib.hid hp
      have hxy := X.out.1.inN x y ((M4.out x y).1 (List.mem_of_getElem? hp))
      have hal : Below wr.heap.size wr (wr.alloc (.cells #[.string x, .string y] 45)) := (Below.refl _ _).alloc (Nat.le_refl _) _
      have HC := Lib.hid ((HA.out.1.below hal).link y x (X.out.1.sizes _ hxy.2) (X.out.1.sizes _ hxy.1))
      have HK := Lib.hid (Kd.C_below HA.out.2 hal)
      have HN := Lib.hid hxy
      clear hp hxy hal
      go_wp2_with fail
      refine HC.out.mono ?_
      rintro e w5 ⟨rfl, hT, hK⟩
      have HZ : Hid (TuS w w5 gt (fun z => z ∈ N) (fun x y => (y, x) ∈ re.take (k + 1)) ∧ Kd.C kE w5 (some ad) re.length re) := by
        refine ⟨hT.congr (fun z => ?_) (fun a b => ?_), C_pair_kept HK.out hK⟩
        · exact ⟨fun h => h.elim id (fun h => h.elim (fun h => by rw [h]; exact HN.out.2) (fun h => by rw [h]; exact HN.out.1)), fun h => .inl h⟩
        · rw [List.take_add_one, HP.out, List.mem_append]
          simp [and_comm]
      clear hT hK HC HK
      go_wp2_with fail
      go_roundg (re.length - k)
      case measure => omega
      case rel => exact ⟨k + 1, by go_num, by omega, by omega, HZ⟩
    · have FIN : Hid (TuS w wr gt (fun z => z ∈ N) (fun x y => E y x)) := HA.out.1.congr (fun z => Iff.rfl) (fun a b => by rw [List.take_of_length_le (by omega)]; exact M4.out b a)
      clear HA
      go_wp2_with fail
      go_ret
      exact ⟨gt, rfl, FIN.out⟩
end Go.Proofs.Ytlccejbomgknkaa
namespace Go.Proofs.Ytlccejbomgknkaa
set_option linter.unusedVariables false
set_option linter.unusedSimpArgs false
open Go.RowKit Go.Maps Go.Proofs.YtlccejbomgknkaaW.PrintWords Go.Proofs.YtlccejbomgknkaaW.PrintLast Go.Proofs.YtlccejbomgknkaaW.PrintMore
def te15T : Bool × List (List Nat × List Nat) := (true, [([], []), ([0], [0]), ([1], [1]), ([2], [2]), ([3, 2, 2], [2, 3]), ([2], [2]), ([5, 2], [2, 5]), ([4, 6, 4, 2], [2, 4, 6]), ([7, 2], [2, 7]), ([2, 8], [2, 8]), ([9, 7], [9]), ([10], [10]), ([11, 10, 10], [10, 11]), ([10], [10]), ([13, 12, 10], [10, 13]), ([14, 10], [10, 14]), ([12, 15, 14, 10], [10, 12, 15]), ([16, 10], [10, 16]), ([10, 17], [10, 17])])
def te15B : List Nat := [0, 1, 3, 7, 15, 7, 39, 127, 255, 511, 1023, 2047, 4095, 2047, 16383, 32767, 65535, 131071, 262143]
theorem te15_tab : rtab .any (opsOf Try.f5 15) = te15T := by kernel_rfl
theorem te15_bits : waitsOk te15T.2 te15B = true := by kernel_rfl
def te19T : Bool × List (List Nat × List Nat) := (true, [([], []), ([0], [0]), ([], []), ([2], [2]), ([1, 3, 1], [1, 3]), ([4, 4], [4]), ([5], [5]), ([6, 5, 5], [5, 6]), ([5], [5]), ([8, 5], [5, 8]), ([7, 9, 7, 5], [5, 7, 9]), ([5, 10], [5, 10]), ([11, 10], [11]), ([12], [12]), ([12], [12]), ([13, 14, 12, 12], [12, 13, 14]), ([12], [12]), ([16, 12], [12, 16]), ([12], [12]), ([17, 18, 15, 12], [12, 17, 18]), ([15, 19, 12], [12, 15, 19]), ([12, 20], [12, 20]), ([21, 19], [21]), ([22], [22]), ([22], [22]), ([23, 24, 22, 22], [22, 23, 24]), ([22], [22]), ([22], [22]), ([26, 27, 25, 22], [22, 26, 27]), ([25, 28, 28, 22], [22, 25, 28]), ([22, 29], [22, 29]), ([30, 29], [30]), ([31], [31]), ([31], [31]), ([32, 33, 31, 31], [31, 32, 33]), ([31], [31]), ([35, 34, 31], [31, 35]), ([31], [31]), ([36, 37, 36, 31], [31, 36, 37]), ([34, 38, 38, 31], [31, 34, 38]), ([31, 39], [31, 39]), ([40, 39, 0, 1, 2, 3, 4, 5, 6, 7, 8, 9, 10, 11, 12, 13, 14, 15, 16, 17, 18, 19, 20, 21, 22, 23, 24, 25, 26, 27, 28, 29, 30, 31, 32, 33, 34, 35, 36, 37, 38, 39, 40], [40])])
def te19B : List Nat := [0, 1, 0, 4, 15, 31, 63, 127, 63, 319, 1023, 2047, 4095, 8191, 8191, 32767, 8191, 73727, 8191, 524287, 1048575, 2097151, 4194303, 8388607, 8388607, 33554431, 8388607, 8388607, 268435455, 536870911, 1073741823, 2147483647, 4294967295, 4294967295, 17179869183, 4294967295, 68719476735, 4294967295, 274877906943, 549755813887, 1099511627775, 2199023255551]
theorem te19_tab : rtab .any (opsOf Try.f5 19) = te19T := by kernel_rfl
theorem te19_bits : waitsOk te19T.2 te19B = true := by kernel_rfl
theorem RefAt.kept {w w' : World} {An Ae : Option Addr} {cn ce B : Nat} {rn : List ByteArray} {re : List Pr} (h : RefAt w An cn rn Ae ce re) (hk : KeptW B w w') : RefAt w' An cn rn Ae ce re :=
  ⟨C_string_kept h.n hk, h.nc, h.nn, C_pair_kept h.e hk, h.ec, h.ln, h.le, h.inN⟩
theorem GraphAt.nodup {w : World} {B g : Nat} {N : List ByteArray} {E : Rel} (h : GraphAt w B g N E) : N.Nodup := by
  obtain ⟨bo, bi, lo, li, hG⟩ := h
  exact hG.nodup
theorem field29 (a b : Value) (w : World) : (Instr.field 29 (.agg #[a, b]) 1).run Try.prog w = .ok b w := by kernel_rfl
def TT (w wr : World) (gt : Nat) (N : List ByteArray) (l : List Pr) : Prop := ∃ N2, GraphAt wr w.heap.size gt N2 (fun x y => memb l y x) ∧ (∀ z, z ∈ N2 ↔ z ∈ N) ∧ N2.length ≤ 1000
theorem TT.below {w wr w' : World} {gt : Nat} {N : List ByteArray} {l : List Pr} (h : TT w wr gt N l) (hb : Below wr.heap.size wr w') : TT w w' gt N l := by
  obtain ⟨N2, h1, h2, h3⟩ := h
  exact ⟨N2, h1.below hb, h2, h3⟩
section
variable {w wr w' : World} {b12 g : Nat} {N : List ByteArray} {l : List Pr} {An : Option Addr} {cn : Nat} {rn : List ByteArray} {Ae : Option Addr} {ce : Nat} {re : List Pr}
theorem FS.small (h : FS w wr b12 g N l An cn rn Ae ce re) : N.length ≤ 300 :=
  Nat.le_trans (nodup_len h.both.gr.nodup (fun z hz => (h.both.eN z).2 hz)) h.both.ln
theorem FS.link (h : FS w wr b12 g N l An cn rn Ae ce re) {x y : ByteArray} (hp : (x, y) ∈ l) :
    Calls Try.prog 23 #[.pointer (some ⟨g, 0, none⟩), .string x, .string y] wr fun e w' => e = .returned (.int .i64 0) ∧ ∃ N', FS w w' b12 g N' l An cn rn Ae ce re := by
  have hin := h.both.gr.inN x y hp
  refine (Link_any h.both.gr h.both.bl.size x y (h.both.gr.sizes _ hin.1) (h.both.gr.sizes _ hin.2)).mono ?_
  rintro e w' ⟨rfl, N', g1, g2, _, g4⟩
  have e : (fun a b => memb l a b ∨ (a = x ∧ b = y)) = memb l := by
    funext a b
    refine propext ⟨fun h => h.elim id ?_, fun h => .inl h⟩
    rintro ⟨rfl, rfl⟩
    exact hp
  rw [e] at g1
  have g2' : ∀ z, z ∈ N' ↔ z ∈ N := fun z => by
    rw [g2 z]
    exact ⟨fun h => h.elim id (fun h => h.elim (fun h => by rw [h]; exact hin.1) (fun h => by rw [h]; exact hin.2)), fun h => .inl h⟩
  refine ⟨rfl, N', ⟨g1, ?_, h.both.bl.trans g4.below, h.both.rf.kept g4, h.both.rise, h.both.riseE, fun z => (h.both.eN z).trans (g2' z).symm, h.both.eE, h.both.le, h.both.ln⟩, g4.cells _ _ _ _ h.blk⟩
  have := nodup_len g1.nodup (fun z hz => (g2' z).1 hz)
  have := h.both.nl
  omega
theorem FS.turnP (h : FS w wr b12 g N l An cn rn Ae ce re) :
    Calls Try.prog 24 #[.pointer (some ⟨g, 0, none⟩)] wr fun e w' => ∃ gt, e = .returned (.pointer (some ⟨gt, 0, none⟩)) ∧ TT w w' gt N l ∧ FS w w' b12 g N l An cn rn Ae ce re := by
  have hs := h.small
  refine (TurnP_any h.both.gr (by omega)).mono ?_
  rintro e w' ⟨gt, rfl, ⟨N2, g1, g2⟩, g3⟩
  refine ⟨gt, rfl, ⟨N2, g1.base h.both.bl.size, g2, ?_⟩, h.below g3⟩
  have := nodup_len g1.nodup (fun z hz => (g2 z).1 hz)
  omega
theorem FS.namesT (h : FS w wr b12 g N l An cn rn Ae ce re) {gt : Nat} (ht : TT w wr gt N l) :
    Calls Try.prog 20 #[.pointer (some ⟨gt, 0, none⟩)] wr fun e w' => ∃ (A : Option Addr) (c : Nat), e = .returned (.slice A rn.length c) ∧ Kd.C Kd.string w' A rn.length rn ∧ TT w w' gt N l ∧ FS w w' b12 g N l An cn rn Ae ce re := by
  obtain ⟨N2, g1, g2, g3⟩ := ht
  refine (Names_any g1 (by omega)).mono ?_
  rintro e w' ⟨v, r, rfl, h1, h2, hR, hb⟩
  have e : r = rn := rise_ext h1 h.both.rise (fun z => (h2 z).trans ((g2 z).trans (h.both.eN z).symm))
  subst e
  obtain ⟨A, c, rfl⟩ := Kd.R_slice hR
  exact ⟨A, c, rfl, (Kd.R_reads' hR).2.2, ⟨N2, g1.below hb, g2, g3⟩, h.below hb⟩
theorem FS.equalT (h : FS w wr b12 g N l An cn rn Ae ce re) {gt : Nat} (ht : TT w wr gt N l) (A1 A2 : Option Addr) (c1 c2 : Nat) (xs : List ByteArray) (h1 : Kd.C Kd.string wr A1 xs.length xs) (h2 : Kd.C Kd.string wr A2 xs.length xs) :
    Calls Try.prog 14 #[.slice A1 xs.length c1, .slice A2 xs.length c2] wr fun e w' => e = .returned (.bool true) ∧ TT w w' gt N l ∧ FS w w' b12 g N l An cn rn Ae ce re := by
  refine (Equal_any A1 A2 c1 c2 xs xs h1 h2).mono ?_
  rintro e w' ⟨rfl, q, rfl⟩
  exact ⟨by simp, ht.below (pw_below_drewN (Below.refl _ _) q), h.below (pw_below_drewN (Below.refl _ _) q)⟩
theorem FS.edgesT (h : FS w wr b12 g N l An cn rn Ae ce re) {gt : Nat} (ht : TT w wr gt N l) :
    Calls Try.prog 26 #[.pointer (some ⟨gt, 0, none⟩)] wr fun e w' => ∃ (A : Option Addr) (c : Nat) (rt : List Pr), e = .returned (.slice A rt.length c) ∧ (RiseP rt ∧ ∀ x y, (x, y) ∈ rt ↔ memb l y x) ∧ Kd.C kE w' A rt.length rt ∧ FS w w' b12 g N l An cn rn Ae ce re := by
  obtain ⟨N2, g1, g2, g3⟩ := ht
  refine (Edges_any g1 g3).mono ?_
  rintro e w' ⟨A, c, rt, rfl, h1, h2, h3, h4, hb⟩
  exact ⟨A, c, rt, rfl, ⟨h1, h2⟩, h4.reads h3, h.below hb⟩
theorem FS.turnE (h : FS w wr b12 g N l An cn rn Ae ce re) {rt : List Pr} (hr : RiseP rt ∧ ∀ x y, (x, y) ∈ rt ↔ memb l y x) {A0 : Option Addr} (hC : Kd.C kE wr A0 rt.length rt) :
    Calls Try.prog 19 #[.agg #[.slice An rn.length cn, .slice Ae re.length ce]] wr fun e w' => ∃ (Am : Option Addr) (cm : Nat) (Af : Option Addr) (cf : Nat), e = .returned (.agg #[.slice Am rn.length cm, .slice Af rt.length cf]) ∧ Kd.C kE w' Af rt.length rt ∧ Kd.C kE w' A0 rt.length rt ∧ FS w w' b12 g N l An cn rn Ae ce re := by
  refine (refTurn_any h.both.rf h.both.rise h.both.le h.both.ln).mono ?_
  rintro e w' ⟨Am, cm, Af, cf, rf, rfl, hA, hrf, hm, hb⟩
  have e : rf = rt := riseP_ext hrf hr.1 (fun p => by
    obtain ⟨x, y⟩ := p
    rw [hm x y, hr.2 x y, h.both.eE])
  subst e
  exact ⟨Am, cm, Af, cf, rfl, hA.e, Kd.C_below hC hb, h.below hb⟩
theorem FS.equalE (h : FS w wr b12 g N l An cn rn Ae ce re) (A1 A2 : Option Addr) (c1 c2 : Nat) (xs : List Pr) (h1 : Kd.C kE wr A1 xs.length xs) (h2 : Kd.C kE wr A2 xs.length xs) :
    Calls Try.prog 25 #[.slice A1 xs.length c1, .slice A2 xs.length c2] wr fun e w' => e = .returned (.bool true) ∧ FS w w' b12 g N l An cn rn Ae ce re := by
  refine (EqE_any A1 A2 c1 c2 xs h1 h2).mono ?_
  rintro e w' ⟨rfl, q, rfl⟩
  exact ⟨rfl, h.below (pw_below_drewN (Below.refl _ _) q)⟩
theorem FS.names (h : FS w wr b12 g N l An cn rn Ae ce re) :
    Calls Try.prog 20 #[.pointer (some ⟨g, 0, none⟩)] wr fun e w' => ∃ (A : Option Addr) (c : Nat), e = .returned (.slice A rn.length c) ∧ Kd.C Kd.string w' A rn.length rn ∧ FS w w' b12 g N l An cn rn Ae ce re := by
  refine (Names_any h.both.gr h.both.nl).mono ?_
  rintro e w' ⟨v, r, rfl, h1, h2, hR, hb⟩
  have e : r = rn := rise_ext h1 h.both.rise (fun z => by rw [h2 z, h.both.eN z])
  subst e
  obtain ⟨A, c, rfl⟩ := Kd.R_slice hR
  exact ⟨A, c, rfl, (Kd.R_reads' hR).2.2, h.below hb⟩
theorem FS.namesC (h : FS w wr b12 g N l An cn rn Ae ce re) :
    Calls Try.prog 20 #[.pointer (some ⟨g, 0, none⟩)] wr fun e w' => ∃ (A : Option Addr) (c : Nat) (W : World), e = .returned (.slice A rn.length c) ∧ (∀ ty, (Builtin.clear_ #[23] ty #[.slice A rn.length c]).run Try.prog w' = .ok (.tuple #[]) W) ∧ FS w W b12 g N l An cn rn Ae ce re := by
  refine (Names_any h.both.gr h.both.nl).mono ?_
  rintro e w' ⟨v, r, rfl, h1, h2, hR, hb⟩
  have e : r = rn := rise_ext h1 h.both.rise (fun z => by rw [h2 z, h.both.eN z])
  subst e
  obtain ⟨A, c, rfl⟩ := Kd.R_slice hR
  by_cases hn : 0 < r.length
  · obtain ⟨inner, ho⟩ := Kd.R_own hR
    rcases ho.2 with ⟨e, e2⟩ | ⟨b, cap, cur, e, hge, hg, hl, hm, hsz, _⟩
    · omega
    · injection e with e1 e2 e3
      subst e1
      subst e3
      have hs : cur.size = c := by simpa [Kd.string, Kd.scalar] using hsz
      have z9 : ∀ w, (zeroValue 9).run Try.prog w = .ok (.string ⟨#[]⟩) w := fun w => by kernel_rfl
      refine ⟨some ⟨b, 0, none⟩, c, w'.setCells b 0 (List.replicate r.length (.string ⟨#[]⟩)), rfl, fun ty => ?_, h.below (hb.trans (Lib.below_setCells_w hge _ _ _))⟩
      refine Lib.run_clear_slice w' 23 9 ty (.string ⟨#[]⟩) Try.underlying23 z9 rfl rfl b 0 r.length c hn (fun j hj => ?_) (fun j hj => ?_)
      · simp only [World.cell?, hg, Nat.zero_add]
        simp
        omega
      · simp [World.frozen?, hg]
  · have e0 : r.length = 0 := by omega
    refine ⟨A, c, w', rfl, fun ty => ?_, h.below hb⟩
    rw [e0]
    cases A <;> simp [Builtin.clear_, run_underlying Try.underlying23]
theorem FS.edges (h : FS w wr b12 g N l An cn rn Ae ce re) :
    Calls Try.prog 26 #[.pointer (some ⟨g, 0, none⟩)] wr fun e w' => ∃ (A : Option Addr) (c : Nat), e = .returned (.slice A re.length c) ∧ Kd.C kE w' A re.length re ∧ FS w w' b12 g N l An cn rn Ae ce re := by
  have hs := h.small
  refine (Edges_any h.both.gr (by omega)).mono ?_
  rintro e w' ⟨A, c, rt, rfl, h1, h2, h3, h4, hb⟩
  have e : rt = re := riseP_ext h1 h.both.riseE (fun p => by
    obtain ⟨x, y⟩ := p
    rw [h2 x y, h.both.eE])
  subst e
  exact ⟨A, c, rfl, h4.reads h3, h.below hb⟩
theorem FS.has (h : FS w wr b12 g N l An cn rn Ae ce re) (nm : ByteArray) {b : Bool} (hb : Hid (b = Lib.containsS rn nm)) :
    Calls Try.prog 27 #[.pointer (some ⟨g, 0, none⟩), .string nm] wr fun e w' => e = .returned (.bool b) ∧ FS w w' b12 g N l An cn rn Ae ce re := by
  rw [hb.out]
  by_cases hn : nm ∈ N
  · rw [contains_yes ((h.both.eN nm).2 hn)]
    refine (has_yes h.both.gr nm hn).mono ?_
    rintro e w' ⟨rfl, rfl⟩
    exact ⟨rfl, h⟩
  · rw [contains_no (fun hh => hn ((h.both.eN nm).1 hh))]
    refine (has_no h.both.gr nm hn).mono ?_
    rintro e w' ⟨rfl, rfl⟩
    exact ⟨rfl, h⟩
theorem FS.contains (h : FS w wr b12 g N l An cn rn Ae ce re) (nm : ByteArray) {b : Bool} (hb : Hid (b = Lib.containsS rn nm)) :
    Calls Try.prog 21 #[.slice An rn.length cn, .string nm] wr fun e w' => e = .returned (.bool b) ∧ FS w w' b12 g N l An cn rn Ae ce re := by
  rw [hb.out]
  refine (Contains_any An cn rn nm h.both.rf.n).mono ?_
  rintro e w' ⟨rfl, rfl⟩
  exact ⟨rfl, h⟩
theorem FS.out (h : FS w wr b12 g N l An cn rn Ae ce re) (nm : ByteArray) :
    Calls Try.prog 22 #[.pointer (some ⟨g, 0, none⟩), .string nm] wr fun e w' => ∃ (A : Option Addr) (c : Nat) (r : List ByteArray), e = .returned (.slice A r.length c) ∧ (Rise r ∧ ∀ z, z ∈ r ↔ memb l nm z) ∧ Kd.C Kd.string w' A r.length r ∧ FS w w' b12 g N l An cn rn Ae ce re := by
  refine (Out_any h.both.gr h.both.nl nm).mono ?_
  rintro e w' ⟨v, r, rfl, h1, h2, hR, hb⟩
  obtain ⟨A, c, rfl⟩ := Kd.R_slice hR
  exact ⟨A, c, r, rfl, ⟨h1, h2⟩, (Kd.R_reads' hR).2.2, h.below hb⟩
theorem FS.in_ (h : FS w wr b12 g N l An cn rn Ae ce re) (nm : ByteArray) :
    Calls Try.prog 29 #[.pointer (some ⟨g, 0, none⟩), .string nm] wr fun e w' => ∃ (A : Option Addr) (c : Nat) (r : List ByteArray), e = .returned (.slice A r.length c) ∧ (Rise r ∧ ∀ z, z ∈ r ↔ memb l z nm) ∧ Kd.C Kd.string w' A r.length r ∧ FS w w' b12 g N l An cn rn Ae ce re := by
  refine (In_any h.both.gr h.both.nl nm).mono ?_
  rintro e w' ⟨v, r, rfl, h1, h2, hR, hb⟩
  obtain ⟨A, c, rfl⟩ := Kd.R_slice hR
  exact ⟨A, c, r, rfl, ⟨h1, h2⟩, (Kd.R_reads' hR).2.2, h.below hb⟩
theorem FS.refout (h : FS w wr b12 g N l An cn rn Ae ce re) (nm : ByteArray) {r : List ByteArray} (hr : Rise r ∧ ∀ z, z ∈ r ↔ memb l nm z) {A0 : Option Addr} (hC : Kd.C Kd.string wr A0 r.length r) :
    Calls Try.prog 28 #[.agg #[.slice An rn.length cn, .slice Ae re.length ce], .string nm] wr fun e w' => ∃ (A : Option Addr) (c : Nat), e = .returned (.slice A r.length c) ∧ Kd.C Kd.string w' A r.length r ∧ Kd.C Kd.string w' A0 r.length r ∧ FS w w' b12 g N l An cn rn Ae ce re := by
  refine (refOut_any h.both.rf nm).mono ?_
  rintro e w' ⟨A, c, r', rfl, h1, h2, hC2, hb⟩
  have e : r' = r := rise_ext h1 hr.1 (fun z => by rw [h2 z, hr.2 z, h.both.eE])
  subst e
  exact ⟨A, c, rfl, hC2, Kd.C_below hC hb, h.below hb⟩
theorem FS.refin (h : FS w wr b12 g N l An cn rn Ae ce re) {Am Af : Option Addr} {cm cf : Nat} {rf : List Pr} (hT : RefAt wr Am cm rn Af cf rf ∧ ∀ x y, (x, y) ∈ rf ↔ (y, x) ∈ re) (nm : ByteArray) {r : List ByteArray} (hr : Rise r ∧ ∀ z, z ∈ r ↔ memb l z nm) {A0 : Option Addr} (hC : Kd.C Kd.string wr A0 r.length r) :
    Calls Try.prog 28 #[.agg #[.slice Am rn.length cm, .slice Af rf.length cf], .string nm] wr fun e w' => ∃ (A : Option Addr) (c : Nat), e = .returned (.slice A r.length c) ∧ Kd.C Kd.string w' A r.length r ∧ Kd.C Kd.string w' A0 r.length r ∧ FS w w' b12 g N l An cn rn Ae ce re := by
  refine (refOut_any hT.1 nm).mono ?_
  rintro e w' ⟨A, c, r', rfl, h1, h2, hC2, hb⟩
  have e : r' = r := rise_ext h1 hr.1 (fun z => by rw [h2 z, hr.2 z, hT.2 nm z, h.both.eE])
  subst e
  exact ⟨A, c, rfl, hC2, Kd.C_below hC hb, h.below hb⟩
end
set_option maxRecDepth 100000 in
set_option maxHeartbeats 8000000 in
theorem tells_walk {w : World} (A : Option Addr) (c : Nat) (l : List Pr) (A2 : Option Addr) (c2 : Nat) (names : List ByteArray) (nm : ByteArray) (hl : Kd.C kE w A l.length l) (hn : Kd.C Kd.string w A2 names.length names ∧ names.length ≤ c2 ∧ (A2 = none → c2 = 0))
    (hz1 : ∀ e ∈ l, e.1.size ≤ maxLen ∧ e.2.size ≤ maxLen) (hz2 : ∀ x ∈ names, x.size ≤ maxLen) :
    Calls Try.prog 5 #[.slice A l.length c, .slice A2 names.length c2, .string nm] w fun e w' => e = .returned (.bool true) ∧ Below w.heap.size w w' := by
  have X := Lib.hid (And.intro hl (And.intro hn (And.intro hz1 hz2)))
  clear hl hn hz1 hz2
  go_enter Try.func5, Try.ntmps5
  go_wp2_with fail
  refine (works_any w).mono ?_
  rintro e w1 ⟨rfl, hb1⟩
  have B1 := Lib.hid hb1
  clear hb1
  by_cases hlong : l.length ≤ 40 ∧ names.length ≤ 20
  · have HL := Lib.hid (long_no w1 A A2 l.length c names.length c2 hlong.1 hlong.2)
    obtain ⟨hl40, hn20⟩ := hlong
    go_wp2_with fail
    refine HL.out.mono ?_
    rintro e w1' ⟨rfl, hw⟩
    obtain rfl : w1 = w1' := hw.symm
    clear HL
    have HM : Hid (Calls Try.prog 10 #[.slice A l.length c, .slice A2 names.length c2] w1 fun e w' => ∃ g N, e = .returned (.pointer (some ⟨g, 0, none⟩)) ∧ GraphAt w' w.heap.size g N (fun x y => (x, y) ∈ l) ∧ (∀ z, z ∈ N ↔ z ∈ names ∨ ∃ e ∈ l, e.1 = z ∨ e.2 = z) ∧ N.length ≤ 1000000 ∧ Below w.heap.size w w') := by
      obtain ⟨hl, hn, hz1, hz2⟩ := X.out
      refine (made_any A c l A2 c2 names (Kd.C_below hl B1.out) (Kd.C_below hn.1 B1.out) (by omega) (by omega) hz1 hz2).mono ?_
      rintro e w2 ⟨g, N, rfl, hG, hN, hln, hb⟩
      exact ⟨g, N, rfl, hG.base B1.out.size, hN, by omega, B1.out.trans (hb.mono B1.out.size)⟩
    go_wp2_with fail
    refine HM.out.mono ?_
    rintro e w2 ⟨g, N, rfl, hG, hN, hln, hb2⟩
    have HO : Hid (Calls Try.prog 11 #[.slice A l.length c, .slice A2 names.length c2] w2 fun e w' => ∃ (An : Option Addr) (cn : Nat) (rn : List ByteArray) (Ae : Option Addr) (ce : Nat) (re : List Pr), e = .returned (.agg #[.slice An rn.length cn, .slice Ae re.length ce]) ∧ Both w w' g N l An cn rn Ae ce re) := by
      obtain ⟨hl, hn, hz1, hz2⟩ := X.out
      refine (Of_any A c l A2 c2 names (Kd.C_below hl hb2) (Kd.C_below hn.1 hb2) hn.2.2 (by omega) (by omega)).mono ?_
      intro e w3 ho
      exact both_of hG hN hln hb2 hl40 hn20 ho
    clear hG hN hln hb2 HM
    go_wp2_with fail
    refine HO.out.mono ?_
    rintro e w3 ⟨An, cn, rn, Ae, ce, re, rfl, hB3⟩
    have P3 := Lib.hid hB3
    clear hB3 HO
    go_wp2_with fail
    have Y0 : Hid (FS w (w3.alloc (.cells #[.slice An rn.length cn, .slice Ae re.length ce] 29)) w3.heap.size g N l An cn rn Ae ce re) :=
      ⟨P3.out.below ((Below.refl _ w3).alloc (Nat.le_refl _) _), (MapKept.heap_alloc w3 _).1⟩
    clear P3
    obtain ⟨b12, hb12⟩ : ∃ b12, b12 = w3.heap.size := ⟨_, rfl⟩
    rw [← hb12] at Y0
    rw [← hb12]
    clear hb12
    go_loopg [10, 28] (l.length + 1) (fun q v10 v28 wr => ∃ (k : Nat) (N : List ByteArray), v28 = .int .i64 k ∧ k ≤ l.length ∧ q + k = l.length + 1 ∧ Hid (FS w wr b12 g N l An cn rn Ae ce re))
    case atStart => exact ⟨0, N, rfl, by omega, by omega, Y0⟩
    case round =>
      obtain ⟨k, N, rfl, hk, hq, HA⟩ := hrel
      clear Y0
      by_cases hlt : k < l.length
      · obtain ⟨ad, p, hp, hA, hc0, hc1⟩ := at_pair (Kd.C_below X.out.1 HA.out.both.bl) k hlt
        subst hA
        obtain ⟨x, y⟩ := p
        have hal : Below wr.heap.size wr (wr.alloc (.cells #[.string x, .string y] 45)) := (Below.refl _ _).alloc (Nat.le_refl _) _
        have HC := Lib.hid ((HA.out.below hal).link (List.mem_of_getElem? hp))
        clear hp hal HA
        go_wp2_with fail
        refine HC.out.mono ?_
        rintro e w5 ⟨rfl, N', hF⟩
        have HZ := Lib.hid hF
        clear hF HC
        go_wp2_with fail
        go_roundg (l.length - k)
        case measure => omega
        case rel => exact ⟨k + 1, N', by go_num, by omega, by omega, HZ⟩
      · have HT := Lib.hid HA.out.turnP
        clear HA
        go_wp2_with fail
        refine HT.out.mono ?_
        rintro e w6 ⟨gt, rfl, hT, hF⟩
        have Z14 : Hid (TT w w6.drew gt N l ∧ FS w w6.drew b12 g N l An cn rn Ae ce re) := ⟨hT.below (pw_below_drewN (Below.refl _ w6) 1), hF.below (pw_below_drewN (Below.refl _ w6) 1)⟩
        clear hT hF HT
        go_wp2_with fail
        have hfd := field29
        refine start_ (n := 19) (S := fun w' => w'.cell? ⟨b12, 0, none⟩ = some (.slice An rn.length cn) ∧ w'.cell? ⟨b12, 1, none⟩ = some (.slice Ae re.length ce)) (ds := []) #[false, false, false, false, false, false, false, false, false, false, false, false, false, false, false, false, false, false, false] (by kernel_rfl) rfl rfl (Z14.out.2.cells) (fun hHeld => ?_); refine with_tabW te15_tab te15_bits (fun HT_ HW_ => ?_)
        refine pure_ (i := 0) (N := some 42) (v := ?_) (a' := ?_) #[true, false, false, false, false, false, false, false, false, false, false, false, false, false, false, false, false, false, false] rfl rfl (any_of HT_.out (by kernel_rfl)) (fun _ _ _ h => h) (Or.inl ⟨by rfl, ?_⟩) ?_ ?_
        rotate_left
        · intro w'
          go_simp
          with_reducible rfl
        rotate_left
        · simp only [Act.put, List.setIfInBounds_toArray, List.set_cons_zero, List.set_cons_succ, i64_w, i32_w]
          rfl
        refine pure_ (i := 1) (N := some 43) (v := ?_) (a' := ?_) #[true, true, false, false, false, false, false, false, false, false, false, false, false, false, false, false, false, false, false] rfl rfl (any_of HT_.out (by kernel_rfl)) (fun _ _ _ h => h) (Or.inl ⟨by rfl, ?_⟩) ?_ ?_
        rotate_left
        · intro w'
          go_simp
          with_reducible rfl
        rotate_left
        · simp only [Act.put, List.setIfInBounds_toArray, List.set_cons_zero, List.set_cons_succ, i64_w, i32_w]
          rfl
        refine pure_ (i := 2) (N := some 44) (v := ?_) (a' := ?_) #[true, true, true, false, false, false, false, false, false, false, false, false, false, false, false, false, false, false, false] rfl rfl (any_of HT_.out (by kernel_rfl)) (fun _ _ _ h => h) (Or.inl ⟨by rfl, ?_⟩) ?_ ?_
        rotate_left
        · intro w'
          go_simp
          with_reducible rfl
        rotate_left
        · simp only [Act.put, List.setIfInBounds_toArray, List.set_cons_zero, List.set_cons_succ, i64_w, i32_w]
          rfl
        refine pure_ (i := 3) (N := some 45) (v := ?_) (a' := ?_) #[true, true, true, true, false, false, false, false, false, false, false, false, false, false, false, false, false, false, false] rfl rfl (any_of HT_.out (by kernel_rfl)) (fun _ _ _ h => h) (Or.inl ⟨by rfl, ?_⟩) ?_ ?_
        rotate_left
        · intro w'
          go_simp
          with_reducible rfl
        rotate_left
        · simp only [Act.put, List.setIfInBounds_toArray, List.set_cons_zero, List.set_cons_succ, i64_w, i32_w]
          rfl
        refine pure_ (i := 5) (N := some 47) (v := ?_) (a' := ?_) #[true, true, true, true, false, true, false, false, false, false, false, false, false, false, false, false, false, false, false] rfl rfl (any_of HT_.out (by kernel_rfl)) (fun _ _ _ h => h) (Or.inl ⟨by rfl, ?_⟩) ?_ ?_
        rotate_left
        · intro w'
          go_simp
          with_reducible rfl
        rotate_left
        · simp only [Act.put, List.setIfInBounds_toArray, List.set_cons_zero, List.set_cons_succ, i64_w, i32_w]
          rfl
        refine take_ (i := 6) (N := some 48) (v := ?_) (a' := ?_) #[true, true, true, true, false, true, true, false, false, false, false, false, false, false, false, false, false, false, false] rfl rfl (take_ofW HT_.out HW_.out (by kernel_rfl)) (fun _ _ _ h => h) (Or.inl ⟨by rfl, ?_⟩) hHeld ?_ ?_
        rotate_left
        · rintro w' ⟨s0, s1⟩
          go_simp
          with_reducible rfl
        rotate_left
        · simp only [Act.put, List.setIfInBounds_toArray, List.set_cons_zero, List.set_cons_succ, i64_w, i32_w]
          rfl
        refine one_ (i := 4) (N := some 46) #[true, true, true, true, true, true, true, false, false, false, false, false, false, false, false, false, false, false, false] rfl rfl (one_of HT_.out (by kernel_rfl)) (by decide) (fun K hK => ?_)
        refine goes_ Try.func20 (by kernel_rfl) rfl #[.pointer (some ⟨gt, 0, none⟩)] (by rfl) rfl rfl (by (try simp only [List.map_toArray, List.map_cons, List.map_nil]); first | done | rfl) ?_
        refine (Z14.out.2.namesT Z14.out.1).mono ?_
        rintro e v4 ⟨Ax, cx, rfl, hC, hT, hF⟩
        refine ⟨_, rfl, ?_⟩
        have Y4 := Lib.hid hF
        have C4 := Lib.hid (And.intro hC hT)
        clear hF hC hT
        refine hK.out _ _ Y4.out.cells (fun hHeld => ?_)
        clear hK K
        refine norm_ (a' := ?_) ?_ ?_
        rotate_left
        · show Act.put _ (some 46) _ = _
          simp only [Act.put, List.setIfInBounds_toArray, List.set_cons_zero, List.set_cons_succ, i64_w, i32_w]
          rfl
        refine one_ (i := 7) (N := some 49) #[true, true, true, true, true, true, true, true, false, false, false, false, false, false, false, false, false, false, false] rfl rfl (one_of HT_.out (by kernel_rfl)) (by decide) (fun K hK => ?_)
        refine goes_ Try.func14 (by kernel_rfl) rfl #[.slice Ax rn.length cx, .slice An rn.length cn] (by rfl) rfl rfl (by (try simp only [List.map_toArray, List.map_cons, List.map_nil]); first | done | rfl) ?_
        refine (Y4.out.equalT C4.out.2 Ax An cx cn rn C4.out.1 Y4.out.both.rf.n).mono ?_
        rintro e v7 ⟨rfl, hT, hF⟩
        refine ⟨_, rfl, ?_⟩
        have Y7 := Lib.hid hF
        have C7 := Lib.hid hT
        clear hF hT
        refine hK.out _ _ Y7.out.cells (fun hHeld => ?_)
        clear hK K
        refine norm_ (a' := ?_) ?_ ?_
        rotate_left
        · show Act.put _ (some 49) _ = _
          simp only [Act.put, List.setIfInBounds_toArray, List.set_cons_zero, List.set_cons_succ, i64_w, i32_w]
          rfl
        refine pure_ (i := 8) (N := some 50) (v := ?_) (a' := ?_) #[true, true, true, true, true, true, true, true, true, false, false, false, false, false, false, false, false, false, false] rfl rfl (any_of HT_.out (by kernel_rfl)) (fun _ _ _ h => h) (Or.inl ⟨by rfl, ?_⟩) ?_ ?_
        rotate_left
        · intro w'
          go_simp
          with_reducible rfl
        rotate_left
        · simp only [Act.put, List.setIfInBounds_toArray, List.set_cons_zero, List.set_cons_succ, i64_w, i32_w]
          rfl
        refine pure_ (i := 9) (N := some 51) (v := ?_) (a' := ?_) #[true, true, true, true, true, true, true, true, true, true, false, false, false, false, false, false, false, false, false] rfl rfl (any_of HT_.out (by kernel_rfl)) (fun _ _ _ h => h) (Or.inl ⟨by rfl, ?_⟩) ?_ ?_
        rotate_left
        · intro w'
          go_simp
          with_reducible rfl
        rotate_left
        · simp only [Act.put, List.setIfInBounds_toArray, List.set_cons_zero, List.set_cons_succ, i64_w, i32_w]
          rfl
        refine pure_ (i := 10) (N := some 52) (v := ?_) (a' := ?_) #[true, true, true, true, true, true, true, true, true, true, true, false, false, false, false, false, false, false, false] rfl rfl (any_of HT_.out (by kernel_rfl)) (fun _ _ _ h => h) (Or.inl ⟨by rfl, ?_⟩) ?_ ?_
        rotate_left
        · intro w'
          go_simp
          with_reducible rfl
        rotate_left
        · simp only [Act.put, List.setIfInBounds_toArray, List.set_cons_zero, List.set_cons_succ, i64_w, i32_w]
          rfl
        refine pure_ (i := 11) (N := some 53) (v := ?_) (a' := ?_) #[true, true, true, true, true, true, true, true, true, true, true, true, false, false, false, false, false, false, false] rfl rfl (any_of HT_.out (by kernel_rfl)) (fun _ _ _ h => h) (Or.inl ⟨by rfl, ?_⟩) ?_ ?_
        rotate_left
        · intro w'
          go_simp
          with_reducible rfl
        rotate_left
        · simp only [Act.put, List.setIfInBounds_toArray, List.set_cons_zero, List.set_cons_succ, i64_w, i32_w]
          rfl
        refine take_ (i := 13) (N := some 55) (v := ?_) (a' := ?_) #[true, true, true, true, true, true, true, true, true, true, true, true, false, true, false, false, false, false, false] rfl rfl (take_ofW HT_.out HW_.out (by kernel_rfl)) (fun _ _ _ h => h) (Or.inl ⟨by rfl, ?_⟩) hHeld ?_ ?_
        rotate_left
        · rintro w' ⟨s0, s1⟩
          go_simp
          with_reducible rfl
        rotate_left
        · simp only [Act.put, List.setIfInBounds_toArray, List.set_cons_zero, List.set_cons_succ, i64_w, i32_w]
          rfl
        refine one_ (i := 12) (N := some 54) #[true, true, true, true, true, true, true, true, true, true, true, true, true, true, false, false, false, false, false] rfl rfl (one_of HT_.out (by kernel_rfl)) (by decide) (fun K hK => ?_)
        refine goes_ Try.func26 (by kernel_rfl) rfl #[.pointer (some ⟨gt, 0, none⟩)] (by rfl) rfl rfl (by (try simp only [List.map_toArray, List.map_cons, List.map_nil]); first | done | rfl) ?_
        refine (Y7.out.edgesT C7.out).mono ?_
        rintro e v12 ⟨Ay, cy, rt, rfl, hr, hC, hF⟩
        refine ⟨_, rfl, ?_⟩
        have Y12 := Lib.hid hF
        have C12 := Lib.hid hC
        have R12 := Lib.hid hr
        clear hF hC hr
        refine hK.out _ _ Y12.out.cells (fun hHeld => ?_)
        clear hK K
        refine norm_ (a' := ?_) ?_ ?_
        rotate_left
        · show Act.put _ (some 54) _ = _
          simp only [Act.put, List.setIfInBounds_toArray, List.set_cons_zero, List.set_cons_succ, i64_w, i32_w]
          rfl
        refine one_ (i := 14) (N := some 56) #[true, true, true, true, true, true, true, true, true, true, true, true, true, true, true, false, false, false, false] rfl rfl (one_of HT_.out (by kernel_rfl)) (by decide) (fun K hK => ?_)
        refine goes_ Try.func19 (by kernel_rfl) rfl #[.agg #[.slice An rn.length cn, .slice Ae re.length ce]] (by rfl) rfl rfl (by (try simp only [List.map_toArray, List.map_cons, List.map_nil]); first | done | rfl) ?_
        refine (Y12.out.turnE R12.out C12.out).mono ?_
        rintro e v14 ⟨Am, cm, Af, cf, rfl, hC, hC2, hF⟩
        refine ⟨_, rfl, ?_⟩
        have Y14 := Lib.hid hF
        have C14 := Lib.hid (And.intro hC hC2)
        clear hF hC hC2
        refine hK.out _ _ Y14.out.cells (fun hHeld => ?_)
        clear hK K
        refine norm_ (a' := ?_) ?_ ?_
        rotate_left
        · show Act.put _ (some 56) _ = _
          simp only [Act.put, List.setIfInBounds_toArray, List.set_cons_zero, List.set_cons_succ, i64_w, i32_w]
          rfl
        refine pure_ (i := 15) (N := some 57) (v := ?_) (a' := ?_) #[true, true, true, true, true, true, true, true, true, true, true, true, true, true, true, true, false, false, false] rfl rfl (any_of HT_.out (by kernel_rfl)) (fun _ _ _ h => h) (Or.inl ⟨by rfl, ?_⟩) ?_ ?_
        rotate_left
        · intro w'
          go_simp
          with_reducible rfl
        rotate_left
        · simp only [Act.put, List.setIfInBounds_toArray, List.set_cons_zero, List.set_cons_succ, i64_w, i32_w]
          rfl
        refine one_ (i := 16) (N := some 58) #[true, true, true, true, true, true, true, true, true, true, true, true, true, true, true, true, true, false, false] rfl rfl (one_of HT_.out (by kernel_rfl)) (by decide) (fun K hK => ?_)
        refine goes_ Try.func25 (by kernel_rfl) rfl #[.slice Ay rt.length cy, .slice Af rt.length cf] (by rfl) rfl rfl (by (try simp only [List.map_toArray, List.map_cons, List.map_nil]); first | done | rfl) ?_
        refine (Y14.out.equalE Ay Af cy cf rt C14.out.2 C14.out.1).mono ?_
        rintro e v16 ⟨rfl, hF⟩
        refine ⟨_, rfl, ?_⟩
        have Y16 := Lib.hid hF
        clear hF
        refine hK.out _ _ Y16.out.cells (fun hHeld => ?_)
        clear hK K
        refine norm_ (a' := ?_) ?_ ?_
        rotate_left
        · show Act.put _ (some 58) _ = _
          simp only [Act.put, List.setIfInBounds_toArray, List.set_cons_zero, List.set_cons_succ, i64_w, i32_w]
          rfl
        refine pure_ (i := 17) (N := some 59) (v := ?_) (a' := ?_) #[true, true, true, true, true, true, true, true, true, true, true, true, true, true, true, true, true, true, false] rfl rfl (any_of HT_.out (by kernel_rfl)) (fun _ _ _ h => h) (Or.inl ⟨by rfl, ?_⟩) ?_ ?_
        rotate_left
        · intro w'
          go_simp
          with_reducible rfl
        rotate_left
        · simp only [Act.put, List.setIfInBounds_toArray, List.set_cons_zero, List.set_cons_succ, i64_w, i32_w]
          rfl
        refine pure_ (i := 18) (N := some 60) (v := ?_) (a' := ?_) #[true, true, true, true, true, true, true, true, true, true, true, true, true, true, true, true, true, true, true] rfl rfl (any_of HT_.out (by kernel_rfl)) (fun _ _ _ h => h) (Or.inl ⟨by rfl, ?_⟩) ?_ ?_
        rotate_left
        · intro w'
          go_simp
          with_reducible rfl
        rotate_left
        · simp only [Act.put, List.setIfInBounds_toArray, List.set_cons_zero, List.set_cons_succ, i64_w, i32_w]
          rfl
        refine done_ (done_of HT_.out (by kernel_rfl)) ?_
        have HNC := Lib.hid Y16.out.namesC
        go_wp2_with fail
        refine HNC.out.mono ?_
        rintro e w7 ⟨Ak, ck, W8, rfl, hcl, hF⟩
        have Y17 := Lib.hid hF
        clear hF HNC
        go_wp2_with (simp only [hcl])
        have Y18 : Hid (FS w W8.drew b12 g N l An cn rn Ae ce re) := Y17.out.below (pw_below_drewN (Below.refl _ W8) 1)
        obtain ⟨bb, hbb0⟩ : ∃ bb, bb = Lib.containsS rn nm := ⟨_, rfl⟩
        have hbb := Lib.hid hbb0
        clear hbb0 hcl Y17
        have hok : (bb == bb) = true := beq_self_eq_true _
        refine start_ (n := 42) (S := fun w' => w'.cell? ⟨b12, 0, none⟩ = some (.slice An rn.length cn) ∧ w'.cell? ⟨b12, 1, none⟩ = some (.slice Ae re.length ce)) (ds := []) #[false, false, false, false, false, false, false, false, false, false, false, false, false, false, false, false, false, false, false, false, false, false, false, false, false, false, false, false, false, false, false, false, false, false, false, false, false, false, false, false, false, false] (by kernel_rfl) rfl rfl (Y18.out.cells) (fun hHeld => ?_); refine with_tabW te19_tab te19_bits (fun HT_ HW_ => ?_)
        refine pure_ (i := 0) (N := some 64) (v := ?_) (a' := ?_) #[true, false, false, false, false, false, false, false, false, false, false, false, false, false, false, false, false, false, false, false, false, false, false, false, false, false, false, false, false, false, false, false, false, false, false, false, false, false, false, false, false, false] rfl rfl (any_of HT_.out (by kernel_rfl)) (fun _ _ _ h => h) (Or.inl ⟨by rfl, ?_⟩) ?_ ?_
        rotate_left
        · intro w'
          go_simp
          with_reducible rfl
        rotate_left
        · simp only [Act.put, List.setIfInBounds_toArray, List.set_cons_zero, List.set_cons_succ, i64_w, i32_w]
          rfl
        refine pure_ (i := 2) (N := some 66) (v := ?_) (a' := ?_) #[true, false, true, false, false, false, false, false, false, false, false, false, false, false, false, false, false, false, false, false, false, false, false, false, false, false, false, false, false, false, false, false, false, false, false, false, false, false, false, false, false, false] rfl rfl (any_of HT_.out (by kernel_rfl)) (fun _ _ _ h => h) (Or.inl ⟨by rfl, ?_⟩) ?_ ?_
        rotate_left
        · intro w'
          go_simp
          with_reducible rfl
        rotate_left
        · simp only [Act.put, List.setIfInBounds_toArray, List.set_cons_zero, List.set_cons_succ, i64_w, i32_w]
          rfl
        refine take_ (i := 3) (N := some 67) (v := ?_) (a' := ?_) #[true, false, true, true, false, false, false, false, false, false, false, false, false, false, false, false, false, false, false, false, false, false, false, false, false, false, false, false, false, false, false, false, false, false, false, false, false, false, false, false, false, false] rfl rfl (take_ofW HT_.out HW_.out (by kernel_rfl)) (fun _ _ _ h => h) (Or.inl ⟨by rfl, ?_⟩) hHeld ?_ ?_
        rotate_left
        · rintro w' ⟨s0, s1⟩
          go_simp
          with_reducible rfl
        rotate_left
        · simp only [Act.put, List.setIfInBounds_toArray, List.set_cons_zero, List.set_cons_succ, i64_w, i32_w]
          rfl
        refine one_ (i := 1) (N := some 65) #[true, true, true, true, false, false, false, false, false, false, false, false, false, false, false, false, false, false, false, false, false, false, false, false, false, false, false, false, false, false, false, false, false, false, false, false, false, false, false, false, false, false] rfl rfl (one_of HT_.out (by kernel_rfl)) (by decide) (fun K hK => ?_)
        refine goes_ Try.func20 (by kernel_rfl) rfl #[.pointer (some ⟨g, 0, none⟩)] (by rfl) rfl rfl (by (try simp only [List.map_toArray, List.map_cons, List.map_nil]); first | done | rfl) ?_
        refine (Y18.out.names).mono ?_
        rintro e u1 ⟨Ab, cb, rfl, hC, hF⟩
        refine ⟨_, rfl, ?_⟩
        have V1 := Lib.hid hF
        have D1 := Lib.hid hC
        clear hF hC
        refine hK.out _ _ V1.out.cells (fun hHeld => ?_)
        clear hK K
        refine norm_ (a' := ?_) ?_ ?_
        rotate_left
        · show Act.put _ (some 65) _ = _
          simp only [Act.put, List.setIfInBounds_toArray, List.set_cons_zero, List.set_cons_succ, i64_w, i32_w]
          rfl
        refine one_ (i := 4) (N := some 68) #[true, true, true, true, true, false, false, false, false, false, false, false, false, false, false, false, false, false, false, false, false, false, false, false, false, false, false, false, false, false, false, false, false, false, false, false, false, false, false, false, false, false] rfl rfl (one_of HT_.out (by kernel_rfl)) (by decide) (fun K hK => ?_)
        refine goes_ Try.func14 (by kernel_rfl) rfl #[.slice Ab rn.length cb, .slice An rn.length cn] (by rfl) rfl rfl (by (try simp only [List.map_toArray, List.map_cons, List.map_nil]); first | done | rfl) ?_
        refine (V1.out.equal Ab An cb cn rn D1.out V1.out.both.rf.n).mono ?_
        rintro e u4 ⟨rfl, hF⟩
        refine ⟨_, rfl, ?_⟩
        have V4 := Lib.hid hF
        clear hF
        refine hK.out _ _ V4.out.cells (fun hHeld => ?_)
        clear hK K
        refine norm_ (a' := ?_) ?_ ?_
        rotate_left
        · show Act.put _ (some 68) _ = _
          simp only [Act.put, List.setIfInBounds_toArray, List.set_cons_zero, List.set_cons_succ, i64_w, i32_w]
          rfl
        refine pure_ (i := 5) (N := some 69) (v := ?_) (a' := ?_) #[true, true, true, true, true, true, false, false, false, false, false, false, false, false, false, false, false, false, false, false, false, false, false, false, false, false, false, false, false, false, false, false, false, false, false, false, false, false, false, false, false, false] rfl rfl (any_of HT_.out (by kernel_rfl)) (fun _ _ _ h => h) (Or.inl ⟨by rfl, ?_⟩) ?_ ?_
        rotate_left
        · intro w'
          go_simp
          with_reducible rfl
        rotate_left
        · simp only [Act.put, List.setIfInBounds_toArray, List.set_cons_zero, List.set_cons_succ, i64_w, i32_w]
          rfl
        refine pure_ (i := 6) (N := some 70) (v := ?_) (a' := ?_) #[true, true, true, true, true, true, true, false, false, false, false, false, false, false, false, false, false, false, false, false, false, false, false, false, false, false, false, false, false, false, false, false, false, false, false, false, false, false, false, false, false, false] rfl rfl (any_of HT_.out (by kernel_rfl)) (fun _ _ _ h => h) (Or.inl ⟨by rfl, ?_⟩) ?_ ?_
        rotate_left
        · intro w'
          go_simp
          with_reducible rfl
        rotate_left
        · simp only [Act.put, List.setIfInBounds_toArray, List.set_cons_zero, List.set_cons_succ, i64_w, i32_w]
          rfl
        refine pure_ (i := 8) (N := some 72) (v := ?_) (a' := ?_) #[true, true, true, true, true, true, true, false, true, false, false, false, false, false, false, false, false, false, false, false, false, false, false, false, false, false, false, false, false, false, false, false, false, false, false, false, false, false, false, false, false, false] rfl rfl (any_of HT_.out (by kernel_rfl)) (fun _ _ _ h => h) (Or.inl ⟨by rfl, ?_⟩) ?_ ?_
        rotate_left
        · intro w'
          go_simp
          with_reducible rfl
        rotate_left
        · simp only [Act.put, List.setIfInBounds_toArray, List.set_cons_zero, List.set_cons_succ, i64_w, i32_w]
          rfl
        refine take_ (i := 9) (N := some 73) (v := ?_) (a' := ?_) #[true, true, true, true, true, true, true, false, true, true, false, false, false, false, false, false, false, false, false, false, false, false, false, false, false, false, false, false, false, false, false, false, false, false, false, false, false, false, false, false, false, false] rfl rfl (take_ofW HT_.out HW_.out (by kernel_rfl)) (fun _ _ _ h => h) (Or.inl ⟨by rfl, ?_⟩) hHeld ?_ ?_
        rotate_left
        · rintro w' ⟨s0, s1⟩
          go_simp
          with_reducible rfl
        rotate_left
        · simp only [Act.put, List.setIfInBounds_toArray, List.set_cons_zero, List.set_cons_succ, i64_w, i32_w]
          rfl
        refine one_ (i := 7) (N := some 71) #[true, true, true, true, true, true, true, true, true, true, false, false, false, false, false, false, false, false, false, false, false, false, false, false, false, false, false, false, false, false, false, false, false, false, false, false, false, false, false, false, false, false] rfl rfl (one_of HT_.out (by kernel_rfl)) (by decide) (fun K hK => ?_)
        refine goes_ Try.func26 (by kernel_rfl) rfl #[.pointer (some ⟨g, 0, none⟩)] (by rfl) rfl rfl (by (try simp only [List.map_toArray, List.map_cons, List.map_nil]); first | done | rfl) ?_
        refine (V4.out.edges).mono ?_
        rintro e u7 ⟨Ac, cc, rfl, hC, hF⟩
        refine ⟨_, rfl, ?_⟩
        have V7 := Lib.hid hF
        have D7 := Lib.hid hC
        clear hF hC
        refine hK.out _ _ V7.out.cells (fun hHeld => ?_)
        clear hK K
        refine norm_ (a' := ?_) ?_ ?_
        rotate_left
        · show Act.put _ (some 71) _ = _
          simp only [Act.put, List.setIfInBounds_toArray, List.set_cons_zero, List.set_cons_succ, i64_w, i32_w]
          rfl
        refine one_ (i := 10) (N := some 74) #[true, true, true, true, true, true, true, true, true, true, true, false, false, false, false, false, false, false, false, false, false, false, false, false, false, false, false, false, false, false, false, false, false, false, false, false, false, false, false, false, false, false] rfl rfl (one_of HT_.out (by kernel_rfl)) (by decide) (fun K hK => ?_)
        refine goes_ Try.func25 (by kernel_rfl) rfl #[.slice Ac re.length cc, .slice Ae re.length ce] (by rfl) rfl rfl (by (try simp only [List.map_toArray, List.map_cons, List.map_nil]); first | done | rfl) ?_
        refine (V7.out.equalE Ac Ae cc ce re D7.out V7.out.both.rf.e).mono ?_
        rintro e u10 ⟨rfl, hF⟩
        refine ⟨_, rfl, ?_⟩
        have V10 := Lib.hid hF
        clear hF
        refine hK.out _ _ V10.out.cells (fun hHeld => ?_)
        clear hK K
        refine norm_ (a' := ?_) ?_ ?_
        rotate_left
        · show Act.put _ (some 74) _ = _
          simp only [Act.put, List.setIfInBounds_toArray, List.set_cons_zero, List.set_cons_succ, i64_w, i32_w]
          rfl
        refine pure_ (i := 11) (N := some 75) (v := ?_) (a' := ?_) #[true, true, true, true, true, true, true, true, true, true, true, true, false, false, false, false, false, false, false, false, false, false, false, false, false, false, false, false, false, false, false, false, false, false, false, false, false, false, false, false, false, false] rfl rfl (any_of HT_.out (by kernel_rfl)) (fun _ _ _ h => h) (Or.inl ⟨by rfl, ?_⟩) ?_ ?_
        rotate_left
        · intro w'
          go_simp
          with_reducible rfl
        rotate_left
        · simp only [Act.put, List.setIfInBounds_toArray, List.set_cons_zero, List.set_cons_succ, i64_w, i32_w]
          rfl
        refine pure_ (i := 12) (N := some 76) (v := ?_) (a' := ?_) #[true, true, true, true, true, true, true, true, true, true, true, true, true, false, false, false, false, false, false, false, false, false, false, false, false, false, false, false, false, false, false, false, false, false, false, false, false, false, false, false, false, false] rfl rfl (any_of HT_.out (by kernel_rfl)) (fun _ _ _ h => h) (Or.inl ⟨by rfl, ?_⟩) ?_ ?_
        rotate_left
        · intro w'
          go_simp
          with_reducible rfl
        rotate_left
        · simp only [Act.put, List.setIfInBounds_toArray, List.set_cons_zero, List.set_cons_succ, i64_w, i32_w]
          rfl
        refine pure_ (i := 13) (N := some 77) (v := ?_) (a' := ?_) #[true, true, true, true, true, true, true, true, true, true, true, true, true, true, false, false, false, false, false, false, false, false, false, false, false, false, false, false, false, false, false, false, false, false, false, false, false, false, false, false, false, false] rfl rfl (any_of HT_.out (by kernel_rfl)) (fun _ _ _ h => h) (Or.inl ⟨by rfl, ?_⟩) ?_ ?_
        rotate_left
        · intro w'
          go_simp
          with_reducible rfl
        rotate_left
        · simp only [Act.put, List.setIfInBounds_toArray, List.set_cons_zero, List.set_cons_succ, i64_w, i32_w]
          rfl
        refine pure_ (i := 14) (N := some 78) (v := ?_) (a' := ?_) #[true, true, true, true, true, true, true, true, true, true, true, true, true, true, true, false, false, false, false, false, false, false, false, false, false, false, false, false, false, false, false, false, false, false, false, false, false, false, false, false, false, false] rfl rfl (any_of HT_.out (by kernel_rfl)) (fun _ _ _ h => h) (Or.inl ⟨by rfl, ?_⟩) ?_ ?_
        rotate_left
        · intro w'
          go_simp
          with_reducible rfl
        rotate_left
        · simp only [Act.put, List.setIfInBounds_toArray, List.set_cons_zero, List.set_cons_succ, i64_w, i32_w]
          rfl
        refine pure_ (i := 16) (N := some 80) (v := ?_) (a' := ?_) #[true, true, true, true, true, true, true, true, true, true, true, true, true, true, true, false, true, false, false, false, false, false, false, false, false, false, false, false, false, false, false, false, false, false, false, false, false, false, false, false, false, false] rfl rfl (any_of HT_.out (by kernel_rfl)) (fun _ _ _ h => h) (Or.inl ⟨by rfl, ?_⟩) ?_ ?_
        rotate_left
        · intro w'
          go_simp
          with_reducible rfl
        rotate_left
        · simp only [Act.put, List.setIfInBounds_toArray, List.set_cons_zero, List.set_cons_succ, i64_w, i32_w]
          rfl
        refine take_ (i := 17) (N := some 81) (v := ?_) (a' := ?_) #[true, true, true, true, true, true, true, true, true, true, true, true, true, true, true, false, true, true, false, false, false, false, false, false, false, false, false, false, false, false, false, false, false, false, false, false, false, false, false, false, false, false] rfl rfl (take_ofW HT_.out HW_.out (by kernel_rfl)) (fun _ _ _ h => h) (Or.inl ⟨by rfl, ?_⟩) hHeld ?_ ?_
        rotate_left
        · rintro w' ⟨s0, s1⟩
          go_simp
          with_reducible rfl
        rotate_left
        · simp only [Act.put, List.setIfInBounds_toArray, List.set_cons_zero, List.set_cons_succ, i64_w, i32_w]
          rfl
        refine pure_ (i := 18) (N := some 82) (v := ?_) (a' := ?_) #[true, true, true, true, true, true, true, true, true, true, true, true, true, true, true, false, true, true, true, false, false, false, false, false, false, false, false, false, false, false, false, false, false, false, false, false, false, false, false, false, false, false] rfl rfl (any_of HT_.out (by kernel_rfl)) (fun _ _ _ h => h) (Or.inl ⟨by rfl, ?_⟩) ?_ ?_
        rotate_left
        · intro w'
          go_simp
          with_reducible rfl
        rotate_left
        · simp only [Act.put, List.setIfInBounds_toArray, List.set_cons_zero, List.set_cons_succ, i64_w, i32_w]
          rfl
        refine one_ (i := 15) (N := some 79) #[true, true, true, true, true, true, true, true, true, true, true, true, true, true, true, true, true, true, true, false, false, false, false, false, false, false, false, false, false, false, false, false, false, false, false, false, false, false, false, false, false, false] rfl rfl (one_of HT_.out (by kernel_rfl)) (by decide) (fun K hK => ?_)
        refine goes_ Try.func27 (by kernel_rfl) rfl #[.pointer (some ⟨g, 0, none⟩), .string nm] (by rfl) rfl rfl (by (try simp only [List.map_toArray, List.map_cons, List.map_nil]); first | done | rfl) ?_
        refine (V10.out.has nm hbb).mono ?_
        rintro e u15 ⟨rfl, hF⟩
        refine ⟨_, rfl, ?_⟩
        have V15 := Lib.hid hF
        clear hF
        refine hK.out _ _ V15.out.cells (fun hHeld => ?_)
        clear hK K
        refine norm_ (a' := ?_) ?_ ?_
        rotate_left
        · show Act.put _ (some 79) _ = _
          simp only [Act.put, List.setIfInBounds_toArray, List.set_cons_zero, List.set_cons_succ, i64_w, i32_w]
          rfl
        refine one_ (i := 19) (N := some 83) #[true, true, true, true, true, true, true, true, true, true, true, true, true, true, true, true, true, true, true, true, false, false, false, false, false, false, false, false, false, false, false, false, false, false, false, false, false, false, false, false, false, false] rfl rfl (one_of HT_.out (by kernel_rfl)) (by decide) (fun K hK => ?_)
        refine goes_ Try.func21 (by kernel_rfl) rfl #[.slice An rn.length cn, .string nm] (by rfl) rfl rfl (by (try simp only [List.map_toArray, List.map_cons, List.map_nil]); first | done | rfl) ?_
        refine (V15.out.contains nm hbb).mono ?_
        rintro e u19 ⟨rfl, hF⟩
        refine ⟨_, rfl, ?_⟩
        have V19 := Lib.hid hF
        clear hF
        refine hK.out _ _ V19.out.cells (fun hHeld => ?_)
        clear hK K
        refine norm_ (a' := ?_) ?_ ?_
        rotate_left
        · show Act.put _ (some 83) _ = _
          simp only [Act.put, List.setIfInBounds_toArray, List.set_cons_zero, List.set_cons_succ, i64_w, i32_w]
          rfl
        refine pure_ (i := 20) (N := some 84) (v := ?_) (a' := ?_) #[true, true, true, true, true, true, true, true, true, true, true, true, true, true, true, true, true, true, true, true, true, false, false, false, false, false, false, false, false, false, false, false, false, false, false, false, false, false, false, false, false, false] rfl rfl (any_of HT_.out (by kernel_rfl)) (fun _ _ _ h => h) (Or.inl ⟨by rfl, ?_⟩) ?_ ?_
        rotate_left
        · intro w'
          go_simp
          with_reducible rfl
        rotate_left
        · simp only [Act.put, List.setIfInBounds_toArray, List.set_cons_zero, List.set_cons_succ, i64_w, i32_w]
          rfl
        refine pure_ (i := 21) (N := some 85) (v := ?_) (a' := ?_) #[true, true, true, true, true, true, true, true, true, true, true, true, true, true, true, true, true, true, true, true, true, true, false, false, false, false, false, false, false, false, false, false, false, false, false, false, false, false, false, false, false, false] rfl rfl (any_of HT_.out (by kernel_rfl)) (fun _ _ _ h => h) (Or.inl ⟨by rfl, ?_⟩) ?_ ?_
        rotate_left
        · intro w'
          go_simp
          with_reducible rfl
        rotate_left
        · simp only [Act.put, List.setIfInBounds_toArray, List.set_cons_zero, List.set_cons_succ, i64_w, i32_w]
          rfl
        refine pure_ (i := 22) (N := some 86) (v := ?_) (a' := ?_) #[true, true, true, true, true, true, true, true, true, true, true, true, true, true, true, true, true, true, true, true, true, true, true, false, false, false, false, false, false, false, false, false, false, false, false, false, false, false, false, false, false, false] rfl rfl (any_of HT_.out (by kernel_rfl)) (fun _ _ _ h => h) (Or.inl ⟨by rfl, ?_⟩) ?_ ?_
        rotate_left
        · intro w'
          go_simp
          with_reducible rfl
        rotate_left
        · simp only [Act.put, List.setIfInBounds_toArray, List.set_cons_zero, List.set_cons_succ, i64_w, i32_w]
          rfl
        refine pure_ (i := 23) (N := some 87) (v := ?_) (a' := ?_) #[true, true, true, true, true, true, true, true, true, true, true, true, true, true, true, true, true, true, true, true, true, true, true, true, false, false, false, false, false, false, false, false, false, false, false, false, false, false, false, false, false, false] rfl rfl (any_of HT_.out (by kernel_rfl)) (fun _ _ _ h => h) (Or.inl ⟨by rfl, ?_⟩) ?_ ?_
        rotate_left
        · intro w'
          go_simp
          with_reducible rfl
        rotate_left
        · simp only [Act.put, List.setIfInBounds_toArray, List.set_cons_zero, List.set_cons_succ, i64_w, i32_w]
          rfl
        refine pure_ (i := 24) (N := some 88) (v := ?_) (a' := ?_) #[true, true, true, true, true, true, true, true, true, true, true, true, true, true, true, true, true, true, true, true, true, true, true, true, true, false, false, false, false, false, false, false, false, false, false, false, false, false, false, false, false, false] rfl rfl (any_of HT_.out (by kernel_rfl)) (fun _ _ _ h => h) (Or.inl ⟨by rfl, ?_⟩) ?_ ?_
        rotate_left
        · intro w'
          go_simp
          with_reducible rfl
        rotate_left
        · simp only [Act.put, List.setIfInBounds_toArray, List.set_cons_zero, List.set_cons_succ, i64_w, i32_w]
          rfl
        refine take_ (i := 26) (N := some 90) (v := ?_) (a' := ?_) #[true, true, true, true, true, true, true, true, true, true, true, true, true, true, true, true, true, true, true, true, true, true, true, true, true, false, true, false, false, false, false, false, false, false, false, false, false, false, false, false, false, false] rfl rfl (take_ofW HT_.out HW_.out (by kernel_rfl)) (fun _ _ _ h => h) (Or.inl ⟨by rfl, ?_⟩) hHeld ?_ ?_
        rotate_left
        · rintro w' ⟨s0, s1⟩
          go_simp
          with_reducible rfl
        rotate_left
        · simp only [Act.put, List.setIfInBounds_toArray, List.set_cons_zero, List.set_cons_succ, i64_w, i32_w]
          rfl
        refine pure_ (i := 27) (N := some 91) (v := ?_) (a' := ?_) #[true, true, true, true, true, true, true, true, true, true, true, true, true, true, true, true, true, true, true, true, true, true, true, true, true, false, true, true, false, false, false, false, false, false, false, false, false, false, false, false, false, false] rfl rfl (any_of HT_.out (by kernel_rfl)) (fun _ _ _ h => h) (Or.inl ⟨by rfl, ?_⟩) ?_ ?_
        rotate_left
        · intro w'
          go_simp
          with_reducible rfl
        rotate_left
        · simp only [Act.put, List.setIfInBounds_toArray, List.set_cons_zero, List.set_cons_succ, i64_w, i32_w]
          rfl
        refine one_ (i := 25) (N := some 89) #[true, true, true, true, true, true, true, true, true, true, true, true, true, true, true, true, true, true, true, true, true, true, true, true, true, true, true, true, false, false, false, false, false, false, false, false, false, false, false, false, false, false] rfl rfl (one_of HT_.out (by kernel_rfl)) (by decide) (fun K hK => ?_)
        refine goes_ Try.func22 (by kernel_rfl) rfl #[.pointer (some ⟨g, 0, none⟩), .string nm] (by rfl) rfl rfl (by (try simp only [List.map_toArray, List.map_cons, List.map_nil]); first | done | rfl) ?_
        refine (V19.out.out nm).mono ?_
        rintro e u25 ⟨Ad, cd, rd, rfl, hr, hC, hF⟩
        refine ⟨_, rfl, ?_⟩
        have V25 := Lib.hid hF
        have D25 := Lib.hid hC
        have Q25 := Lib.hid hr
        clear hF hC hr
        refine hK.out _ _ V25.out.cells (fun hHeld => ?_)
        clear hK K
        refine norm_ (a' := ?_) ?_ ?_
        rotate_left
        · show Act.put _ (some 89) _ = _
          simp only [Act.put, List.setIfInBounds_toArray, List.set_cons_zero, List.set_cons_succ, i64_w, i32_w]
          rfl
        refine one_ (i := 28) (N := some 92) #[true, true, true, true, true, true, true, true, true, true, true, true, true, true, true, true, true, true, true, true, true, true, true, true, true, true, true, true, true, false, false, false, false, false, false, false, false, false, false, false, false, false] rfl rfl (one_of HT_.out (by kernel_rfl)) (by decide) (fun K hK => ?_)
        refine goes_ Try.func28 (by kernel_rfl) rfl #[.agg #[.slice An rn.length cn, .slice Ae re.length ce], .string nm] (by rfl) rfl rfl (by (try simp only [List.map_toArray, List.map_cons, List.map_nil]); first | done | rfl) ?_
        refine (V25.out.refout nm Q25.out D25.out).mono ?_
        rintro e u28 ⟨Ag, cg, rfl, hC, hC2, hF⟩
        refine ⟨_, rfl, ?_⟩
        have V28 := Lib.hid hF
        have D28 := Lib.hid (And.intro hC hC2)
        clear hF hC hC2
        refine hK.out _ _ V28.out.cells (fun hHeld => ?_)
        clear hK K
        refine norm_ (a' := ?_) ?_ ?_
        rotate_left
        · show Act.put _ (some 92) _ = _
          simp only [Act.put, List.setIfInBounds_toArray, List.set_cons_zero, List.set_cons_succ, i64_w, i32_w]
          rfl
        refine one_ (i := 29) (N := some 93) #[true, true, true, true, true, true, true, true, true, true, true, true, true, true, true, true, true, true, true, true, true, true, true, true, true, true, true, true, true, true, false, false, false, false, false, false, false, false, false, false, false, false] rfl rfl (one_of HT_.out (by kernel_rfl)) (by decide) (fun K hK => ?_)
        refine goes_ Try.func14 (by kernel_rfl) rfl #[.slice Ad rd.length cd, .slice Ag rd.length cg] (by rfl) rfl rfl (by (try simp only [List.map_toArray, List.map_cons, List.map_nil]); first | done | rfl) ?_
        refine (V28.out.equal Ad Ag cd cg rd D28.out.2 D28.out.1).mono ?_
        rintro e u29 ⟨rfl, hF⟩
        refine ⟨_, rfl, ?_⟩
        have V29 := Lib.hid hF
        clear hF
        refine hK.out _ _ V29.out.cells (fun hHeld => ?_)
        clear hK K
        refine norm_ (a' := ?_) ?_ ?_
        rotate_left
        · show Act.put _ (some 93) _ = _
          simp only [Act.put, List.setIfInBounds_toArray, List.set_cons_zero, List.set_cons_succ, i64_w, i32_w]
          rfl
        refine pure_ (i := 30) (N := some 94) (v := ?_) (a' := ?_) #[true, true, true, true, true, true, true, true, true, true, true, true, true, true, true, true, true, true, true, true, true, true, true, true, true, true, true, true, true, true, true, false, false, false, false, false, false, false, false, false, false, false] rfl rfl (any_of HT_.out (by kernel_rfl)) (fun _ _ _ h => h) (Or.inl ⟨by rfl, ?_⟩) ?_ ?_
        rotate_left
        · intro w'
          go_simp
          with_reducible rfl
        rotate_left
        · simp only [Act.put, List.setIfInBounds_toArray, List.set_cons_zero, List.set_cons_succ, i64_w, i32_w]
          rfl
        refine pure_ (i := 31) (N := some 95) (v := ?_) (a' := ?_) #[true, true, true, true, true, true, true, true, true, true, true, true, true, true, true, true, true, true, true, true, true, true, true, true, true, true, true, true, true, true, true, true, false, false, false, false, false, false, false, false, false, false] rfl rfl (any_of HT_.out (by kernel_rfl)) (fun _ _ _ h => h) (Or.inl ⟨by rfl, ?_⟩) ?_ ?_
        rotate_left
        · intro w'
          go_simp
          with_reducible rfl
        rotate_left
        · simp only [Act.put, List.setIfInBounds_toArray, List.set_cons_zero, List.set_cons_succ, i64_w, i32_w]
          rfl
        refine pure_ (i := 32) (N := some 96) (v := ?_) (a' := ?_) #[true, true, true, true, true, true, true, true, true, true, true, true, true, true, true, true, true, true, true, true, true, true, true, true, true, true, true, true, true, true, true, true, true, false, false, false, false, false, false, false, false, false] rfl rfl (any_of HT_.out (by kernel_rfl)) (fun _ _ _ h => h) (Or.inl ⟨by rfl, ?_⟩) ?_ ?_
        rotate_left
        · intro w'
          go_simp
          with_reducible rfl
        rotate_left
        · simp only [Act.put, List.setIfInBounds_toArray, List.set_cons_zero, List.set_cons_succ, i64_w, i32_w]
          rfl
        refine pure_ (i := 33) (N := some 97) (v := ?_) (a' := ?_) #[true, true, true, true, true, true, true, true, true, true, true, true, true, true, true, true, true, true, true, true, true, true, true, true, true, true, true, true, true, true, true, true, true, true, false, false, false, false, false, false, false, false] rfl rfl (any_of HT_.out (by kernel_rfl)) (fun _ _ _ h => h) (Or.inl ⟨by rfl, ?_⟩) ?_ ?_
        rotate_left
        · intro w'
          go_simp
          with_reducible rfl
        rotate_left
        · simp only [Act.put, List.setIfInBounds_toArray, List.set_cons_zero, List.set_cons_succ, i64_w, i32_w]
          rfl
        refine take_ (i := 35) (N := some 99) (v := ?_) (a' := ?_) #[true, true, true, true, true, true, true, true, true, true, true, true, true, true, true, true, true, true, true, true, true, true, true, true, true, true, true, true, true, true, true, true, true, true, false, true, false, false, false, false, false, false] rfl rfl (take_ofW HT_.out HW_.out (by kernel_rfl)) (fun _ _ _ h => h) (Or.inl ⟨by rfl, ?_⟩) hHeld ?_ ?_
        rotate_left
        · rintro w' ⟨s0, s1⟩
          go_simp
          with_reducible rfl
        rotate_left
        · simp only [Act.put, List.setIfInBounds_toArray, List.set_cons_zero, List.set_cons_succ, i64_w, i32_w]
          rfl
        refine pure_ (i := 37) (N := some 101) (v := ?_) (a' := ?_) #[true, true, true, true, true, true, true, true, true, true, true, true, true, true, true, true, true, true, true, true, true, true, true, true, true, true, true, true, true, true, true, true, true, true, false, true, false, true, false, false, false, false] rfl rfl (any_of HT_.out (by kernel_rfl)) (fun _ _ _ h => h) (Or.inl ⟨by rfl, ?_⟩) ?_ ?_
        rotate_left
        · intro w'
          go_simp
          with_reducible rfl
        rotate_left
        · simp only [Act.put, List.setIfInBounds_toArray, List.set_cons_zero, List.set_cons_succ, i64_w, i32_w]
          rfl
        refine one_ (i := 34) (N := some 98) #[true, true, true, true, true, true, true, true, true, true, true, true, true, true, true, true, true, true, true, true, true, true, true, true, true, true, true, true, true, true, true, true, true, true, true, true, false, true, false, false, false, false] rfl rfl (one_of HT_.out (by kernel_rfl)) (by decide) (fun K hK => ?_)
        refine goes_ Try.func29 (by kernel_rfl) rfl #[.pointer (some ⟨g, 0, none⟩), .string nm] (by rfl) rfl rfl (by (try simp only [List.map_toArray, List.map_cons, List.map_nil]); first | done | rfl) ?_
        refine (V29.out.in_ nm).mono ?_
        rintro e u34 ⟨Ah, ch, ri, rfl, hr, hC, hF⟩
        refine ⟨_, rfl, ?_⟩
        have V34 := Lib.hid hF
        have D34 := Lib.hid hC
        have Q34 := Lib.hid hr
        clear hF hC hr
        refine hK.out _ _ V34.out.cells (fun hHeld => ?_)
        clear hK K
        refine norm_ (a' := ?_) ?_ ?_
        rotate_left
        · show Act.put _ (some 98) _ = _
          simp only [Act.put, List.setIfInBounds_toArray, List.set_cons_zero, List.set_cons_succ, i64_w, i32_w]
          rfl
        refine one_ (i := 36) (N := some 100) #[true, true, true, true, true, true, true, true, true, true, true, true, true, true, true, true, true, true, true, true, true, true, true, true, true, true, true, true, true, true, true, true, true, true, true, true, true, true, false, false, false, false] rfl rfl (one_of HT_.out (by kernel_rfl)) (by decide) (fun K hK => ?_)
        refine goes_ Try.func19 (by kernel_rfl) rfl #[.agg #[.slice An rn.length cn, .slice Ae re.length ce]] (by rfl) rfl rfl (by (try simp only [List.map_toArray, List.map_cons, List.map_nil]); first | done | rfl) ?_
        refine (V34.out.turn D34.out).mono ?_
        rintro e u36 ⟨Ap, cp, Aq, cq, rq, rfl, hT, hC, hF⟩
        refine ⟨_, rfl, ?_⟩
        have V36 := Lib.hid hF
        have T36 := Lib.hid hT
        have D36 := Lib.hid hC
        clear hF hC hT
        refine hK.out _ _ V36.out.cells (fun hHeld => ?_)
        clear hK K
        refine norm_ (a' := ?_) ?_ ?_
        rotate_left
        · show Act.put _ (some 100) _ = _
          simp only [Act.put, List.setIfInBounds_toArray, List.set_cons_zero, List.set_cons_succ, i64_w, i32_w]
          rfl
        refine one_ (i := 38) (N := some 102) #[true, true, true, true, true, true, true, true, true, true, true, true, true, true, true, true, true, true, true, true, true, true, true, true, true, true, true, true, true, true, true, true, true, true, true, true, true, true, true, false, false, false] rfl rfl (one_of HT_.out (by kernel_rfl)) (by decide) (fun K hK => ?_)
        refine goes_ Try.func28 (by kernel_rfl) rfl #[.agg #[.slice Ap rn.length cp, .slice Aq rq.length cq], .string nm] (by rfl) rfl rfl (by (try simp only [List.map_toArray, List.map_cons, List.map_nil]); first | done | rfl) ?_
        refine (V36.out.refin T36.out nm Q34.out D36.out).mono ?_
        rintro e u38 ⟨Ar, cr, rfl, hC, hC2, hF⟩
        refine ⟨_, rfl, ?_⟩
        have V38 := Lib.hid hF
        have D38 := Lib.hid (And.intro hC hC2)
        clear hF hC hC2
        refine hK.out _ _ V38.out.cells (fun hHeld => ?_)
        clear hK K
        refine norm_ (a' := ?_) ?_ ?_
        rotate_left
        · show Act.put _ (some 102) _ = _
          simp only [Act.put, List.setIfInBounds_toArray, List.set_cons_zero, List.set_cons_succ, i64_w, i32_w]
          rfl
        refine one_ (i := 39) (N := some 103) #[true, true, true, true, true, true, true, true, true, true, true, true, true, true, true, true, true, true, true, true, true, true, true, true, true, true, true, true, true, true, true, true, true, true, true, true, true, true, true, true, false, false] rfl rfl (one_of HT_.out (by kernel_rfl)) (by decide) (fun K hK => ?_)
        refine goes_ Try.func14 (by kernel_rfl) rfl #[.slice Ah ri.length ch, .slice Ar ri.length cr] (by rfl) rfl rfl (by (try simp only [List.map_toArray, List.map_cons, List.map_nil]); first | done | rfl) ?_
        refine (V38.out.equal Ah Ar ch cr ri D38.out.2 D38.out.1).mono ?_
        rintro e u39 ⟨rfl, hF⟩
        refine ⟨_, rfl, ?_⟩
        have V39 := Lib.hid hF
        clear hF
        refine hK.out _ _ V39.out.cells (fun hHeld => ?_)
        clear hK K
        refine norm_ (a' := ?_) ?_ ?_
        rotate_left
        · show Act.put _ (some 103) _ = _
          simp only [Act.put, List.setIfInBounds_toArray, List.set_cons_zero, List.set_cons_succ, i64_w, i32_w]
          rfl
        refine pure_ (i := 40) (N := some 104) (v := ?_) (a' := ?_) #[true, true, true, true, true, true, true, true, true, true, true, true, true, true, true, true, true, true, true, true, true, true, true, true, true, true, true, true, true, true, true, true, true, true, true, true, true, true, true, true, true, false] rfl rfl (any_of HT_.out (by kernel_rfl)) (fun _ _ _ h => h) (Or.inl ⟨by rfl, ?_⟩) ?_ ?_
        rotate_left
        · intro w'
          go_simp
          with_reducible rfl
        rotate_left
        · simp only [Act.put, List.setIfInBounds_toArray, List.set_cons_zero, List.set_cons_succ, i64_w, i32_w]
          rfl
        refine pure_ (i := 41) (N := some 6) (v := ?_) (a' := ?_) #[true, true, true, true, true, true, true, true, true, true, true, true, true, true, true, true, true, true, true, true, true, true, true, true, true, true, true, true, true, true, true, true, true, true, true, true, true, true, true, true, true, true] rfl rfl (any_of HT_.out (by kernel_rfl)) (fun _ _ _ h => h) (Or.inl ⟨by rfl, ?_⟩) ?_ ?_
        rotate_left
        · intro w'
          go_simp
          with_reducible rfl
        rotate_left
        · simp only [Act.put, List.setIfInBounds_toArray, List.set_cons_zero, List.set_cons_succ, i64_w, i32_w]
          rfl
        refine done_ (done_of HT_.out (by kernel_rfl)) ?_
        go_wp2_with fail
        go_ret
        exact ⟨rfl, V39.out.both.bl⟩
  · have HL := Lib.hid (long_yes w1 A A2 l.length c names.length c2 hlong)
    go_wp2_with fail
    refine HL.out.mono ?_
    rintro e w1' ⟨rfl, hw⟩
    obtain rfl : w1 = w1' := hw.symm
    clear HL
    go_wp2_with fail
    go_ret
    exact ⟨rfl, B1.out⟩
end Go.Proofs.Ytlccejbomgknkaa
