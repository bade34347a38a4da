/- What is below, what is above: the closure that goes through the graph. -/
import Derived.Test.YtlccejbomgknkaaGLink
import Derived.Laws.EntriesVeiled
namespace Go.Proofs.Ytlccejbomgknkaa
set_option linter.unusedVariables false
set_option linter.unusedSimpArgs false
open Go.RowKit Go.Maps Go.Proofs.YtlccejbomgknkaaW.PrintWords Go.Proofs.YtlccejbomgknkaaW.PrintLast

/-- A way of edges leads from x to y. -/
inductive Reach (R : Rel) : ByteArray → ByteArray → Prop
  | refl (x : ByteArray) : Reach R x x
  | head {x y z : ByteArray} : R x y → Reach R y z → Reach R x z
theorem Reach.trans {R : Rel} {x y z : ByteArray} (h : Reach R x y) (k : Reach R y z) : Reach R x z := by
  induction h with
  | refl x => exact k
  | head h1 _ ih => exact .head h1 (ih k)
theorem Reach.snoc {R : Rel} {x y z : ByteArray} (h : Reach R x y) (k : R y z) : Reach R x z := h.trans (.head k (.refl z))

/-- The cells that the closure has captured. -/
structure VC (w : World) (g bs be ps pg pe pv : Nat) : Prop where
  s : w.cell? ⟨ps, 0, none⟩ = some (.map (some bs))
  g : w.cell? ⟨pg, 0, none⟩ = some (.pointer (some ⟨g, 0, none⟩))
  e : w.cell? ⟨pe, 0, none⟩ = some (.map (some be))
  v : w.cell? ⟨pv, 0, none⟩ = some (.func (.func 52) #[] #[.pointer (some ⟨ps, 0, none⟩), .pointer (some ⟨pg, 0, none⟩), .pointer (some ⟨pe, 0, none⟩), .pointer (some ⟨pv, 0, none⟩)])
/-- A row of cells is no map. -/
theorem cell_ne_map {w : World} {b p o : Nat} {l : Ents} {v : Value} (h : MapAt w b l) (hc : w.cell? ⟨p, o, none⟩ = some v) : p ≠ b := by
  rintro rfl
  obtain ⟨es, clock, hb, _⟩ := h
  unfold World.cell? at hc
  simp only [hb] at hc
  cases hc
theorem VC.grown {w w' : World} {g bs be ps pg pe pv : Nat} {l : Ents} (h : VC w g bs be ps pg pe pv) (hm : MapAt w bs l) (hg : w.grownBy w' (some bs)) : VC w' g bs be ps pg pe pv :=
  ⟨hg.cell h.s (fun e => cell_ne_map hm h.s (by injection e)), hg.cell h.g (fun e => cell_ne_map hm h.g (by injection e)), hg.cell h.e (fun e => cell_ne_map hm h.e (by injection e)), hg.cell h.v (fun e => cell_ne_map hm h.v (by injection e))⟩
theorem block_of_cell {w w' : World} {p o : Nat} {v : Value} (he : w'.heap[p]? = w.heap[p]?) (hc : w.cell? ⟨p, o, none⟩ = some v) : w'.cell? ⟨p, o, none⟩ = some v := by
  unfold World.cell? at hc ⊢
  simp only [he]
  exact hc
theorem cell_lt {w : World} {p o : Nat} {v : Value} (hc : w.cell? ⟨p, o, none⟩ = some v) : p < w.heap.size := by
  unfold World.cell? at hc
  split at hc
  · rename_i c e f hb
    exact (Array.getElem?_eq_some_iff.1 hb).1
  · cases hc
theorem VC.below {w w' : World} {g bs be ps pg pe pv : Nat} (h : VC w g bs be ps pg pe pv) (hb : Below w.heap.size w w') : VC w' g bs be ps pg pe pv :=
  ⟨block_of_cell (hb.block _ (cell_lt h.s)) h.s, block_of_cell (hb.block _ (cell_lt h.g)) h.g, block_of_cell (hb.block _ (cell_lt h.e)) h.e, block_of_cell (hb.block _ (cell_lt h.v)) h.v⟩

/-- What a visit at nm leaves of the seen names S. -/
def Visited (w : World) (bs : Nat) (N S : List ByteArray) (R : Rel) (nm : ByteArray) (w' : World) : Prop :=
  ∃ S', MapAt w' bs (encS S') ∧ w.grownBy w' (some bs) ∧ (∀ x ∈ S, x ∈ S') ∧ (∀ x ∈ S', x ∈ N) ∧ (nm ∈ N → nm ∈ S') ∧ ∀ x ∈ S', x ∉ S → Reach R nm x ∧ ∀ y, R x y → y ∈ S'

theorem getE_encS_yes {s : List ByteArray} {x : ByteArray} (hn : s.Nodup) (h : x ∈ s) : getE (encS s) x = some (.bool true) :=
  (getE_mem (by rw [fst_encS]; exact hn)).2 (List.mem_map.2 ⟨x, h, rfl⟩)
theorem getE_encS_no {s : List ByteArray} {x : ByteArray} (h : x ∉ s) : getE (encS s) x = none := getE_isNone.2 (by rw [fst_encS]; exact h)
theorem putE_encS_new {s : List ByteArray} {y : ByteArray} (hy : y ∉ s) : putE (encS s) y (.bool true) = encS (s ++ [y]) := by
  rw [putE_new]
  · simp [encS]
  · intro p hp e
    obtain ⟨z, hz, rfl⟩ := List.mem_map.1 hp
    exact hy (e ▸ hz)
theorem MapAt.keys_nodup {w : World} {b : Nat} {s : List ByteArray} (h : MapAt w b (encS s)) : s.Nodup := by
  have := h.nodup
  rwa [fst_encS] at this
theorem Gr.size_le {w : World} {B g bo bi : Nat} {N : List ByteArray} {E : Rel} {lo li : List (ByteArray × Nat)} (h : Gr w B g N E bo bi lo li) {x : ByteArray} (hx : x ∈ N) : x.size ≤ maxLen := by
  obtain ⟨es, clock, _, _, _, hs⟩ := h.mo
  rw [← h.no] at hx
  obtain ⟨p, hp, rfl⟩ := List.mem_map.1 hx
  exact hs (p.1, .map (some p.2)) (List.mem_map.2 ⟨p, hp, rfl⟩)
theorem GraphAt.size_le {w : World} {B g : Nat} {N : List ByteArray} {E : Rel} (h : GraphAt w B g N E) {x : ByteArray} (hx : x ∈ N) : x.size ≤ maxLen := by
  obtain ⟨bo, bi, lo, li, hG⟩ := h
  exact hG.size_le hx

set_option maxRecDepth 100000 in
set_option maxHeartbeats 1000000 in
/-- A name that has been seen, or is none: nothing is done. -/
theorem visit_skip {W0 : World} {B g be bs ps pg pe pv : Nat} {N : List ByteArray} {E R : Rel} (hG : GraphAt W0 B g N E) (S : List ByteArray) (w : World) (nm : ByteArray) (hV : VC w g bs be ps pg pe pv) (hB : Below W0.heap.size W0 w) (hS : MapAt w bs (encS S)) (hSN : ∀ x ∈ S, x ∈ N) (hno : nm ∈ S ∨ nm ∉ N) :
    Calls Try.prog 52 #[.string nm, .pointer (some ⟨ps, 0, none⟩), .pointer (some ⟨pg, 0, none⟩), .pointer (some ⟨pe, 0, none⟩), .pointer (some ⟨pv, 0, none⟩)] w fun e w' => e = .returned (.tuple #[]) ∧ Visited w bs N S R nm w' := by
  have HV : Hid (Visited w bs N S R nm w) := by
    refine ⟨S, hS, World.grownBy.refl _ _, fun _ h => h, hSN, fun h => ?_, fun x h1 h2 => absurd h1 h2⟩
    rcases hno with h1 | h1
    · exact h1
    · exact absurd h h1
  have cs := hV.s
  have cg := hV.g
  have ce := hV.e
  have hrun := hS.lookup Try.underlying70 Try.underlying9 (zero4 w) nm false
  by_cases hin : nm ∈ S
  · rw [getE_encS_yes hS.keys_nodup hin] at hrun
    simp only [Bool.false_eq_true, if_false, Option.getD_some] at hrun
    clear hin hV hS hSN hB hG hno
    go_enter Try.func52, Try.ntmps52
    go_wp2_with fail
    (try simp only [Exit.inBlock, Exit.then])
    refine bodyPost_ret (results_none rfl _ _ _) rfl ?_
    exact ⟨rfl, HV.out⟩
  · rw [getE_encS_no hin] at hrun
    simp only [Bool.false_eq_true, if_false, Option.getD_none] at hrun
    have HC := Lib.hid (has_no (hG.below hB) nm (hno.resolve_left hin))
    clear hin hV hS hSN hB hG hno
    go_enter Try.func52, Try.ntmps52
    go_wp2_with fail
    refine HC.out.mono ?_
    rintro e w1 ⟨rfl, rfl⟩
    go_wp2_with fail
    (try simp only [Exit.inBlock, Exit.then])
    refine bodyPost_ret (results_none rfl _ _ _) rfl ?_
    exact ⟨rfl, HV.out⟩

/-- What holds between two rounds of the range over the names that nm asks. -/
structure VR (W0 w wr : World) (g be bs ps pg pe pv b r : Nat) (N S1 s : List ByteArray) (R : Rel) (nm : ByteArray) (S2 : List ByteArray) (left : Ents) : Prop where
  it : IterAt wr b r (encS s) left
  mp : MapAt wr bs (encS S2)
  vc : VC wr g bs be ps pg pe pv
  bl : Below W0.heap.size W0 wr
  gr : w.grownBy wr (some bs)
  sn : ∀ x ∈ S2, x ∈ N
  ss : ∀ x ∈ S1, x ∈ S2
  dn : ∀ y ∈ s, (y, Value.bool true) ∉ left → y ∈ S2
  cl : ∀ x ∈ S2, x ∉ S1 → Reach R nm x ∧ ∀ y, R x y → y ∈ S2

theorem length_delE_lt {l : Ents} {k : ByteArray} {v : Value} (h : (k, v) ∈ l) : (delE l k).length < l.length := by
  unfold delE
  rcases Nat.lt_or_ge ((l.filter (fun p => decide (p.1 ≠ k))).length) l.length with h1 | h1
  · exact h1
  · have h2 := List.length_filter_eq_length_iff.1 (Nat.le_antisymm (List.length_filter_le _ _) h1) _ h
    simp at h2

set_option maxRecDepth 100000 in
set_option maxHeartbeats 4000000 in
theorem visit_any {W0 : World} {B g be bs ps pg pe pv : Nat} {N : List ByteArray} {E R : Rel} {le : List (ByteArray × Nat)} (hG : GraphAt W0 B g N E) (hme : MapAt W0 be (encM le)) (hne : le.map Prod.fst = N) (hse : ∀ p ∈ le, SetAt W0 p.2 (R p.1)) (hRN : ∀ x y, R x y → x ∈ N ∧ y ∈ N) (hbs : W0.heap.size ≤ bs) (m : Nat) :
    ∀ (S : List ByteArray) (w : World) (nm : ByteArray), VC w g bs be ps pg pe pv → Below W0.heap.size W0 w → MapAt w bs (encS S) → (∀ x ∈ S, x ∈ N) → N.length ≤ m + S.length →
    Calls Try.prog 52 #[.string nm, .pointer (some ⟨ps, 0, none⟩), .pointer (some ⟨pg, 0, none⟩), .pointer (some ⟨pe, 0, none⟩), .pointer (some ⟨pv, 0, none⟩)] w fun e w' => e = .returned (.tuple #[]) ∧ Visited w bs N S R nm w' := by
  induction m with
  | zero =>
    intro S w nm hV hB hS hSN hm
    by_cases h1 : nm ∈ S ∨ nm ∉ N
    · exact visit_skip hG S w nm hV hB hS hSN h1
    · exfalso
      have h2 : nm ∉ S := fun h => h1 (.inl h)
      have h3 : nm ∈ N := Classical.byContradiction fun h => h1 (.inr h)
      have := nodup_len (s := nm :: S) (N := N) (List.nodup_cons.2 ⟨h2, hS.keys_nodup⟩) (fun x hx => by
        rcases List.mem_cons.1 hx with rfl | hx
        · exact h3
        · exact hSN x hx)
      simp only [List.length_cons] at this
      omega
  | succ m ih =>
    intro S w nm hV hB hS hSN hm
    by_cases h1 : nm ∈ S ∨ nm ∉ N
    · exact visit_skip hG S w nm hV hB hS hSN h1
    · have hnS : nm ∉ S := fun h => h1 (.inl h)
      have hnN : nm ∈ N := Classical.byContradiction fun h => h1 (.inr h)
      have cs := hV.s
      have cg := hV.g
      have hrun := hS.lookup Try.underlying70 Try.underlying9 (zero4 w) nm false
      rw [getE_encS_no hnS] at hrun
      simp only [Bool.false_eq_true, if_false, Option.getD_none] at hrun
      have HC := Lib.hid (has_yes (hG.below hB) nm hnN)
      have hnd : (le.map Prod.fst).Nodup := by
        obtain ⟨bo, bi, lo, li, hG'⟩ := hG
        rw [hne]; exact hG'.nodup
      obtain ⟨b, hb, hget, s, hs, hsR⟩ : ∃ b, (nm, b) ∈ le ∧ getE (encM le) nm = some (.map (some b)) ∧ SetAt W0 b (R nm) := by
        have hk := hnN
        rw [← hne] at hk
        obtain ⟨p, hp, rfl⟩ := List.mem_map.1 hk
        exact ⟨p.2, hp, getE_encM hnd hp, hse p hp⟩
      have hsz := hG.size_le hnN
      have X := Lib.hid (And.intro hV (And.intro hB (And.intro hS (And.intro hSN (And.intro hm (And.intro hnS (And.intro hnN (And.intro hget (And.intro hs hsR)))))))))
      have Y := Lib.hid (And.intro hG (And.intro hme (And.intro hbs hRN)))
      have IH := Lib.hid ih
      clear hV hB hS hSN hm h1 hnS hnN hget hs hsR hG hme hbs hRN ih hse hne hnd hb
      go_enter Try.func52, Try.ntmps52
      go_wp2_with fail
      refine HC.out.mono ?_
      rintro e w1 ⟨rfl, hw⟩
      obtain rfl : w = w1 := hw.symm
      go_wp2_with (at_mapUpdate; refine wpList_putAt _ rfl (.tmp 16) (.tmp 17) (.const (.bool true)) 70 rfl 9 4 Try.underlying70 Try.underlying9 bs (encS S) X.out.2.2.1 rfl nm rfl hsz (.bool true) rfl ?_)
      intro w2 h2 g2 z2
      obtain ⟨hV, hB, hS, hSN, hm, hnS, hnN, hget, hs, hsR⟩ := X.out
      obtain ⟨hG, hme, hbs, hRN⟩ := Y.out
      have h2' : MapAt w2 bs (encS (S ++ [nm])) := by rw [← putE_encS_new hnS]; exact h2
      have hV2 := hV.grown hS g2
      have hB2 : Below W0.heap.size W0 w2 := hB.grown g2 hB.size (fun k e => by injection e with e; omega)
      have ce := hV2.e
      have hbl : b < W0.heap.size := hs.lt
      have hs2 : MapAt w2 b (encS s) := hs.below hB2 hbl
      have hme2 : MapAt w2 be (encM le) := hme.below hB2 hme.lt
      have HB2 := Lib.hid (And.intro h2' (And.intro hV2 (And.intro hB2 (And.intro hs2 hme2))))
      have HG2 := Lib.hid g2
      clear h2 g2 z2 h2' hV2 hB2 hs2 hme2 hV hB hS hSN hm hnS hnN hsR hs hG hme hRN cs cg hrun
      have Z := Lib.hid (And.intro hget (And.intro hbs hbl))
      clear hget hbs hbl
      go_wp2_with (first | (at_lookup; refine wpList_lookAt _ rfl (.tmp 18) (.tmp 19) 65 rfl 9 70 Try.underlying65 Try.underlying9 (.map none) zero70 be (encM le) HB2.out.2.2.2.2 rfl nm rfl (.map (some b)) (by rw [Z.out.1]; rfl) ?_) | (at_range; refine wpList_rangeAt _ rfl (.tmp 20) 70 rfl 9 4 Try.underlying70 b (encS s) HB2.out.2.2.2.1 rfl ?_))
      intro w3 hI g3 z3
      obtain ⟨r, hr⟩ : ∃ r, r = w2.heap.size := ⟨_, rfl⟩
      rw [← hr] at hI ⊢
      have h0 : VR W0 w w3 g be bs ps pg pe pv b r N (S ++ [nm]) s R nm (S ++ [nm]) (encS s) := by
        obtain ⟨h2', hV2, hB2, hs2, hme2⟩ := HB2.out
        obtain ⟨hV, hB, hS, hSN, hm, hnS, hnN, hget, hs, hsR⟩ := X.out
        refine ⟨hI, h2'.same (g3.block bs h2'.lt (by simp)), ?_, ?_, ?_, ?_, fun _ h => h, ?_, ?_⟩
        · exact hV2.below ⟨g3.os, g3.tape, g3.output, g3.size, fun k hk => g3.block k hk (by simp)⟩
        · exact hB2.trans ⟨g3.os, g3.tape, g3.output, g3.size, fun k hk => g3.block k (by have := hB2.size; omega) (by simp)⟩
        · exact HG2.out.andThen (g3.but _) (fun j e => .inr e)
        · intro x hx
          rcases List.mem_append.1 hx with hx | hx
          · exact hSN x hx
          · rw [List.mem_singleton.1 hx]; exact hnN
        · intro y hy h
          exact absurd (List.mem_map.2 ⟨y, hy, rfl⟩) h
        · exact fun x h1 h2 => absurd h1 h2
      have H0 := Lib.hid h0
      have HR := Lib.hid hr
      clear h0 hI g3 z3 hr ce
      go_wp2_with fail
      go_loopg [] (s.length + 1) (fun q wr => ∃ S2 left, left.length < q ∧ Hid (VR W0 w wr g be bs ps pg pe pv b r N (S ++ [nm]) s R nm S2 left))
      case atStart => exact ⟨_, _, by simp [encS], H0⟩
      case round =>
        obtain ⟨S2, left, hq, HA⟩ := hrel
        clear H0
        go_wp2_with (at_next; refine wpList_nextAt _ rfl (.tmp 21) rfl b r (encS s) left HA.out.it rfl ?_ ?_)
        · intro hl
          have HL := Lib.hid hl
          clear hl
          go_wp2_with fail
          (try simp only [Exit.inBlock, Exit.then])
          go_end0
          obtain ⟨k1, k2, k3, k4, k5, k6, k7, k8, k9⟩ := HA.out
          obtain ⟨hV, hB, hS, hSN, hm, hnS, hnN, hget, hs, hsR⟩ := X.out
          refine ⟨rfl, S2, k2, k5, fun x hx => k7 x (List.mem_append_left _ hx), k6, fun _ => k7 nm (by simp), fun x hx hxS => ?_⟩
          by_cases hxn : x = nm
          · subst hxn
            exact ⟨.refl _, fun y hy => k8 y ((hsR y).2 hy) (by rw [HL.out]; simp)⟩
          · exact k9 x hx (by simp [hxS, hxn])
        · intro k v w4 hk hI hg hz hen
          obtain ⟨k1, k2, k3, k4, k5, k6, k7, k8, k9⟩ := HA.out
          obtain ⟨hV, hB, hS, hSN, hm, hnS, hnN, hget, hs, hsR⟩ := X.out
          have hrs : r ≠ bs := by
            rintro rfl
            obtain ⟨es, clock, since, seen, c0, _, _, _, _, hri, _⟩ := k1
            obtain ⟨es', clock', hbi, _⟩ := k2
            rw [hri] at hbi
            cases hbi
          have hks : (k, v) ∈ encS s := k1.sub hk
          obtain ⟨k', hk's, hke⟩ := List.mem_map.1 hks
          injection hke with e1 e2
          subst e1
          subst e2
          have hrw : w.heap.size ≤ r := by
            rw [HR.out]
            exact HG2.out.size
          have hW0w : W0.heap.size ≤ w.heap.size := hB.size
          have m4 : MapAt w4 bs (encS S2) := k2.same (hg.block bs k2.lt (fun e => by injection e with e; exact hrs e.symm))
          have hnc : ∀ {p : Nat} {u : Value}, wr.cell? ⟨p, 0, none⟩ = some u → p ≠ r := by
            rintro p u hc rfl
            obtain ⟨es, clock, since, seen, c0, _, _, _, _, hri, _⟩ := k1
            unfold World.cell? at hc
            simp only [hri] at hc
            cases hc
          have v4 : VC w4 g bs be ps pg pe pv := ⟨hg.cell k3.s (fun e => hnc k3.s (by injection e)), hg.cell k3.g (fun e => hnc k3.g (by injection e)), hg.cell k3.e (fun e => hnc k3.e (by injection e)), hg.cell k3.v (fun e => hnc k3.v (by injection e))⟩
          have b4 : Below W0.heap.size W0 w4 := k4.grown hg k4.size (fun j e => by injection e with e; omega)
          have g4 : w.grownBy w4 (some bs) := k5.andThen hg (fun j e => by injection e with e; exact .inl (by omega))
          have hcv := v4.v
          have hlen : N.length ≤ m + S2.length := by
            have := nodup_len (s := S ++ [nm]) (N := S2) (by
              rw [List.nodup_append]
              exact ⟨hS.keys_nodup, by simp, fun a ha b hb e => hnS (by rw [List.mem_singleton.1 hb] at e; exact e ▸ ha)⟩) k7
            simp only [List.length_append, List.length_singleton] at this
            omega
          have HC2 := Lib.hid (IH.out S2 w4 k' v4 b4 m4 k6 hlen)
          have HF := Lib.hid (And.intro hI (And.intro m4 (And.intro v4 (And.intro b4 (And.intro g4 (And.intro hk (And.intro hk's hrs)))))))
          clear k1 k2 k3 k4 k5 k6 k7 k8 k9 hV hB hS hSN hm hnS hnN hget hs hsR hks hrw hW0w m4 hnc v4 b4 g4 hlen hI hg hz hk hk's hrs
          go_wp2_with fail
          refine HC2.out.mono ?_
          rintro e w5 ⟨rfl, hvis⟩
          have HW := Lib.hid hvis
          clear hvis hcv hen
          go_wp2_with fail
          go_roundg left.length
          case measure => omega
          case rel =>
            obtain ⟨hI, m4, v4, b4, g4, hk, hk's, hrs⟩ := HF.out
            obtain ⟨S3, t1, t2, t3, t4, t5, t6⟩ := HW.out
            obtain ⟨k1, k2, k3, k4, k5, k6, k7, k8, k9⟩ := HA.out
            obtain ⟨hV, hB, hS, hSN, hm, hnS, hnN, hget, hs, hsR⟩ := X.out
            obtain ⟨hG, hme, hbs, hRN⟩ := Y.out
            have hbW : b < W0.heap.size := hs.lt
            refine ⟨S3, delE left k', length_delE_lt hk, ⟨hI.same (t2.block b (by have := b4.size; omega) (fun e => by injection e with e; omega)) (t2.block r hI.lt (fun e => by injection e with e; exact hrs e)), t1, v4.grown m4 t2, b4.grown t2 b4.size (fun j e => by injection e with e; omega), g4.andThen t2 (fun j e => .inr e), t4, fun x hx => t3 x (k7 x hx), ?_, ?_⟩⟩
            · intro y hy hyl
              by_cases hyk : y = k'
              · subst hyk
                exact t5 (hRN _ _ ((hsR y).1 hy)).2
              · refine t3 y (k8 y hy (fun h => hyl (mem_delE.2 ⟨h, hyk⟩)))
            · intro x hx hx1
              by_cases hx2 : x ∈ S2
              · obtain ⟨q1, q2⟩ := k9 x hx2 hx1
                exact ⟨q1, fun y hy => t3 y (q2 y hy)⟩
              · obtain ⟨q1, q2⟩ := t6 x hx hx2
                exact ⟨.head ((hsR k').1 hk's) q1, q2⟩
end Go.Proofs.Ytlccejbomgknkaa
