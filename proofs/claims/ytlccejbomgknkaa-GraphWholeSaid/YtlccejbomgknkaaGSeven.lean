/- 'g.out[n], g.in[n] = set{}, set{}': what has been done so far, by what of the statement has come up. -/
import Derived.Test.YtlccejbomgknkaaGEntry
import Derived.Test.YtlccejbomgknkaaWInvWords
import Derived.Test.YtlccejbomgknkaaWLast
namespace Go.Proofs.Ytlccejbomgknkaa
set_option linter.unusedVariables false
set_option linter.unusedSimpArgs false
open Go.RowKit Go.Maps Go.Proofs.YtlccejbomgknkaaW.PrintWords Go.Proofs.YtlccejbomgknkaaW.PrintLast

/-- A map's state: as it was; an entry laid; its element stored. -/
def Stage (w : World) (b : Nat) (l : Ents) (k : ByteArray) (laid stored : Bool) (st m : Nat) : Prop :=
  if stored = true then MapAt w b (l ++ [(k, .map (some m))]) else if laid = true then MidAt w b l k (.map none) st else MapAt w b l
theorem Stage.same {w w' : World} {b : Nat} {l : Ents} {k : ByteArray} {x y : Bool} {st m : Nat} (h : Stage w b l k x y st m) (he : w'.heap[b]? = w.heap[b]?) : Stage w' b l k x y st m := by
  unfold Stage at h ⊢
  split
  · rename_i c; rw [if_pos c] at h; exact h.same he
  · rename_i c; rw [if_neg c] at h
    split
    · rename_i d; rw [if_pos d] at h; exact h.same he
    · rename_i d; rw [if_neg d] at h; exact h.same he
theorem Stage.lt {w : World} {b : Nat} {l : Ents} {k : ByteArray} {x y : Bool} {st m : Nat} (h : Stage w b l k x y st m) : b < w.heap.size := by
  unfold Stage at h
  split at h
  · exact h.lt
  · split at h
    · exact h.lt
    · exact h.lt
/-- A new empty map, if it has been made. -/
def Fresh (w : World) (n : Nat) (made : Bool) (m : Nat) : Prop := made = true → MapAt w m [] ∧ n ≤ m

structure R7 (W : World) (bo bi : Nat) (lo li : Ents) (nm : ByteArray) (b : Nat → Bool) (m1 m2 s1 s2 : Nat) (w : World) : Prop where
  os : w.os = W.os
  tape : w.tape = W.tape
  output : w.output = W.output
  size : W.heap.size ≤ w.heap.size
  kept : ∀ k, k < W.heap.size → k ≠ bo → k ≠ bi → w.heap[k]? = W.heap[k]?
  o : Stage w bo lo nm (b 12) (b 14) s1 m1
  i : Stage w bi li nm (b 15) (b 17) s2 m2
  f1 : Fresh w W.heap.size (b 10) m1
  f2 : Fresh w W.heap.size (b 11) m2
  ne : b 10 = true → b 11 = true → m1 ≠ m2

section
variable {W w : World} {bo bi : Nat} {lo li : Ents} {nm : ByteArray} {b : Nat → Bool} {m1 m2 s1 s2 : Nat}
theorem R7.quiet (h : R7 W bo bi lo li nm b m1 m2 s1 s2 w) (j : Nat) (hj : j ≠ 10 ∧ j ≠ 11 ∧ j ≠ 12 ∧ j ≠ 14 ∧ j ≠ 15 ∧ j ≠ 17) : R7 W bo bi lo li nm (up b j) m1 m2 s1 s2 w := by
  obtain ⟨h1, h2, h3, h4, h5, h6, h7, h8, h9, h10⟩ := h
  have e : ∀ n, n ≠ j → up b j n = b n := fun n hn => up_ne hn
  exact ⟨h1, h2, h3, h4, h5, by rw [e 12 (by omega), e 14 (by omega)]; exact h6, by rw [e 15 (by omega), e 17 (by omega)]; exact h7, by rw [e 10 (by omega)]; exact h8, by rw [e 11 (by omega)]; exact h9, by rw [e 10 (by omega), e 11 (by omega)]; exact h10⟩
/-- Another block is new. -/
theorem alloc_same (w : World) (o : Obj) {k : Nat} (h : k < w.heap.size) : (w.alloc o).heap[k]? = w.heap[k]? := Below.heap_alloc w o k h
theorem R7.make1 (h : R7 W bo bi lo li nm b m1 m2 s1 s2 w) (h10 : b 10 = false) (h14 : b 14 = false) : R7 W bo bi lo li nm (up b 10) w.heap.size m2 s1 s2 (w.alloc (.map #[] 0)) := by
  obtain ⟨k1, k2, k3, k4, k5, k6, k7, k8, k9, k10⟩ := h
  have e : ∀ n, n ≠ 10 → up b 10 n = b n := fun n hn => up_ne hn
  refine ⟨k1, k2, k3, by simp; omega, fun k hk hb hi => (alloc_same _ _ (by omega)).trans (k5 k hk hb hi), ?_, ?_, ?_, ?_, ?_⟩
  · rw [e 12 (by omega), e 14 (by omega)]
    have := k6.same (alloc_same w (.map #[] 0) k6.lt)
    unfold Stage at this ⊢
    rw [h14] at this ⊢
    simpa using this
  · rw [e 15 (by omega), e 17 (by omega)]
    exact k7.same (alloc_same _ _ k7.lt)
  · exact fun _ => ⟨MapAt.made w, k4⟩
  · rw [e 11 (by omega)]
    exact fun hm => ⟨(k9 hm).1.alloc _, (k9 hm).2⟩
  · rw [e 11 (by omega)]
    intro _ hm
    have := (k9 hm).1.lt
    omega
theorem R7.make2 (h : R7 W bo bi lo li nm b m1 m2 s1 s2 w) (h11 : b 11 = false) (h17 : b 17 = false) : R7 W bo bi lo li nm (up b 11) m1 w.heap.size s1 s2 (w.alloc (.map #[] 0)) := by
  obtain ⟨k1, k2, k3, k4, k5, k6, k7, k8, k9, k10⟩ := h
  have e : ∀ n, n ≠ 11 → up b 11 n = b n := fun n hn => up_ne hn
  refine ⟨k1, k2, k3, by simp; omega, fun k hk hb hi => (alloc_same _ _ (by omega)).trans (k5 k hk hb hi), ?_, ?_, ?_, ?_, ?_⟩
  · rw [e 12 (by omega), e 14 (by omega)]
    exact k6.same (alloc_same _ _ k6.lt)
  · rw [e 15 (by omega), e 17 (by omega)]
    have := k7.same (alloc_same w (.map #[] 0) k7.lt)
    unfold Stage at this ⊢
    rw [h17] at this ⊢
    simpa using this
  · rw [e 10 (by omega)]
    exact fun hm => ⟨(k8 hm).1.alloc _, (k8 hm).2⟩
  · exact fun _ => ⟨MapAt.made w, k4⟩
  · rw [e 10 (by omega)]
    intro hm _
    have := (k8 hm).1.lt
    omega
theorem fresh_grown {w w' : World} {n m x : Nat} {made : Bool} (h : Fresh w n made m) (hg : w.grownBy w' (some x)) (hx : x < n) : Fresh w' n made m := by
  intro hm
  obtain ⟨h1, h2⟩ := h hm
  exact ⟨h1.same (hg.block m h1.lt (by intro e; injection e with e; omega)), h2⟩
theorem R7.entry1 (h : R7 W bo bi lo li nm b m1 m2 s1 s2 w) (hne : bo ≠ bi) (hbo : bo < W.heap.size) (hk : nm.size ≤ maxLen) (hnew : nm ∉ lo.map Prod.fst) (h12 : b 12 = false) (h14 : b 14 = false) :
    ∃ st w', (Instr.mapEntry 65 (.map (some bo)) (.string nm)).run Try.prog w = .ok (.tuple #[.map none, .int .i64 (st : Nat)]) w' ∧ R7 W bo bi lo li nm (up b 12) m1 m2 st s2 w' := by
  obtain ⟨k1, k2, k3, k4, k5, k6, k7, k8, k9, k10⟩ := h
  have e : ∀ n, n ≠ 12 → up b 12 n = b n := fun n hn => up_ne hn
  have k6' : MapAt w bo lo := by unfold Stage at k6; simpa [h12, h14] using k6
  obtain ⟨st, w', r1, r2, r3, r4⟩ := k6'.entryNew Try.underlying65 Try.underlying9 (zero70 w) nm hk hnew
  refine ⟨st, w', r1, ⟨r3.os.trans k1, r3.tape.trans k2, r3.output.trans k3, by omega, fun k hk hb hi => (r3.block k (by omega) (by intro e; injection e with e; exact hb e)).trans (k5 k hk hb hi), ?_, ?_, ?_, ?_, ?_⟩⟩
  · rw [up_self, e 14 (by omega)]
    unfold Stage
    simpa [h14] using r2
  · rw [e 15 (by omega), e 17 (by omega)]
    exact k7.same (r3.block bi k7.lt (by intro e; injection e with e; exact hne e.symm))
  · rw [e 10 (by omega)]; exact fresh_grown k8 r3 hbo
  · rw [e 11 (by omega)]; exact fresh_grown k9 r3 hbo
  · rw [e 10 (by omega), e 11 (by omega)]; exact k10
theorem R7.entry2 (h : R7 W bo bi lo li nm b m1 m2 s1 s2 w) (hne : bo ≠ bi) (hbi : bi < W.heap.size) (hk : nm.size ≤ maxLen) (hnew : nm ∉ li.map Prod.fst) (h15 : b 15 = false) (h17 : b 17 = false) :
    ∃ st w', (Instr.mapEntry 65 (.map (some bi)) (.string nm)).run Try.prog w = .ok (.tuple #[.map none, .int .i64 (st : Nat)]) w' ∧ R7 W bo bi lo li nm (up b 15) m1 m2 s1 st w' := by
  obtain ⟨k1, k2, k3, k4, k5, k6, k7, k8, k9, k10⟩ := h
  have e : ∀ n, n ≠ 15 → up b 15 n = b n := fun n hn => up_ne hn
  have k7' : MapAt w bi li := by unfold Stage at k7; simpa [h15, h17] using k7
  obtain ⟨st, w', r1, r2, r3, r4⟩ := k7'.entryNew Try.underlying65 Try.underlying9 (zero70 w) nm hk hnew
  refine ⟨st, w', r1, ⟨r3.os.trans k1, r3.tape.trans k2, r3.output.trans k3, by omega, fun k hk hb hi => (r3.block k (by omega) (by intro e; injection e with e; exact hi e)).trans (k5 k hk hb hi), ?_, ?_, ?_, ?_, ?_⟩⟩
  · rw [e 12 (by omega), e 14 (by omega)]
    exact k6.same (r3.block bo k6.lt (by intro e; injection e with e; exact hne e))
  · rw [up_self, e 17 (by omega)]
    unfold Stage
    simpa [h17] using r2
  · rw [e 10 (by omega)]; exact fresh_grown k8 r3 hbi
  · rw [e 11 (by omega)]; exact fresh_grown k9 r3 hbi
  · rw [e 10 (by omega), e 11 (by omega)]; exact k10
theorem R7.store1 (h : R7 W bo bi lo li nm b m1 m2 s1 s2 w) (hne : bo ≠ bi) (hbo : bo < W.heap.size) (h12 : b 12 = true) (h14 : b 14 = false) :
    ∃ w', (Instr.entryStore 65 (.map (some bo)) (.int .i64 (s1 : Nat)) (.map (some m1))).run Try.prog w = .ok () w' ∧ R7 W bo bi lo li nm (up b 14) m1 m2 s1 s2 w' := by
  obtain ⟨k1, k2, k3, k4, k5, k6, k7, k8, k9, k10⟩ := h
  have e : ∀ n, n ≠ 14 → up b 14 n = b n := fun n hn => up_ne hn
  have k6' : MidAt w bo lo nm (.map none) s1 := by unfold Stage at k6; simpa [h12, h14] using k6
  obtain ⟨w', r1, r2, r3, r4⟩ := k6'.store (P := Try.prog) (t := 65) (.map (some m1))
  refine ⟨w', r1, ⟨r3.os.trans k1, r3.tape.trans k2, r3.output.trans k3, by omega, fun k hk hb hi => (r3.block k (by omega) (by intro e; injection e with e; exact hb e)).trans (k5 k hk hb hi), ?_, ?_, ?_, ?_, ?_⟩⟩
  · rw [up_self]
    unfold Stage
    simpa using r2
  · rw [e 15 (by omega), e 17 (by omega)]
    exact k7.same (r3.block bi k7.lt (by intro e; injection e with e; exact hne e.symm))
  · rw [e 10 (by omega)]; exact fresh_grown k8 r3 hbo
  · rw [e 11 (by omega)]; exact fresh_grown k9 r3 hbo
  · rw [e 10 (by omega), e 11 (by omega)]; exact k10
theorem R7.store2 (h : R7 W bo bi lo li nm b m1 m2 s1 s2 w) (hne : bo ≠ bi) (hbi : bi < W.heap.size) (h15 : b 15 = true) (h17 : b 17 = false) :
    ∃ w', (Instr.entryStore 65 (.map (some bi)) (.int .i64 (s2 : Nat)) (.map (some m2))).run Try.prog w = .ok () w' ∧ R7 W bo bi lo li nm (up b 17) m1 m2 s1 s2 w' := by
  obtain ⟨k1, k2, k3, k4, k5, k6, k7, k8, k9, k10⟩ := h
  have e : ∀ n, n ≠ 17 → up b 17 n = b n := fun n hn => up_ne hn
  have k7' : MidAt w bi li nm (.map none) s2 := by unfold Stage at k7; simpa [h15, h17] using k7
  obtain ⟨w', r1, r2, r3, r4⟩ := k7'.store (P := Try.prog) (t := 65) (.map (some m2))
  refine ⟨w', r1, ⟨r3.os.trans k1, r3.tape.trans k2, r3.output.trans k3, by omega, fun k hk hb hi => (r3.block k (by omega) (by intro e; injection e with e; exact hi e)).trans (k5 k hk hb hi), ?_, ?_, ?_, ?_, ?_⟩⟩
  · rw [e 12 (by omega), e 14 (by omega)]
    exact k6.same (r3.block bo k6.lt (by intro e; injection e with e; exact hne e))
  · rw [up_self]
    unfold Stage
    simpa using r2
  · rw [e 10 (by omega)]; exact fresh_grown k8 r3 hbi
  · rw [e 11 (by omega)]; exact fresh_grown k9 r3 hbi
  · rw [e 10 (by omega), e 11 (by omega)]; exact k10
end

/-- The graph behind it. -/
theorem Gr.add {W w : World} {B g bo bi m1 m2 s1 s2 : Nat} {N : List ByteArray} {E : Rel} {lo li : List (ByteArray × Nat)} {nm : ByteArray} {b : Nat → Bool} (hG : Gr W B g N E bo bi lo li) (hB : B ≤ W.heap.size) (hnew : nm ∉ N)
    (h : R7 W bo bi (encM lo) (encM li) nm b m1 m2 s1 s2 w) (hb : ∀ j, 10 ≤ j → j ≤ 17 → b j = true) :
    GraphAt w B g (N ++ [nm]) E ∧ KeptW B W w := by
  obtain ⟨k1, k2, k3, k4, k5, k6, k7, k8, k9, k10⟩ := h
  have e14 := hb 14 (by omega) (by omega)
  have e17 := hb 17 (by omega) (by omega)
  have k6' : MapAt w bo (encM (lo ++ [(nm, m1)])) := by unfold Stage at k6; rw [if_pos e14] at k6; simpa [encM] using k6
  have k7' : MapAt w bi (encM (li ++ [(nm, m2)])) := by unfold Stage at k7; rw [if_pos e17] at k7; simpa [encM] using k7
  obtain ⟨n1, n2⟩ := k8 (hb 10 (by omega) (by omega))
  obtain ⟨n3, n4⟩ := k9 (hb 11 (by omega) (by omega))
  have n5 := k10 (hb 10 (by omega) (by omega)) (hb 11 (by omega) (by omega))
  have hap := hG.apart
  have hbase := hG.base
  have hgl : g < W.heap.size := (Array.getElem?_eq_some_iff.1 hG.cells).1
  have hbol := hG.mo.lt
  have hbil := hG.mi.lt
  have hsz : ∀ k ∈ lo.map Prod.snd ++ li.map Prod.snd, k < W.heap.size := by
    intro k hk
    rcases List.mem_append.1 hk with hk | hk
    · obtain ⟨p, hp, rfl⟩ := List.mem_map.1 hk
      obtain ⟨s, hs, _⟩ := hG.so p hp
      exact hs.lt
    · obtain ⟨p, hp, rfl⟩ := List.mem_map.1 hk
      obtain ⟨s, hs, _⟩ := hG.si p hp
      exact hs.lt
  have hgne : ∀ {x : Nat} {l : Ents}, MapAt W x l → g ≠ x := by
    intro x l hx e
    obtain ⟨es, clock, hb, _⟩ := hx
    rw [← e, hG.cells] at hb
    cases hb
  rw [List.nodup_cons, List.nodup_cons] at hap
  obtain ⟨ha1, ha2, ha3⟩ := hap
  have hset : ∀ {x : Nat} {S : ByteArray → Prop}, x ∈ lo.map Prod.snd ++ li.map Prod.snd → SetAt W x S → SetAt w x S := by
    rintro x S hx ⟨s, hs, hS⟩
    exact ⟨s, hs.same (k5 x (hsz x hx) (fun e => ha1 (by rw [← e]; exact List.mem_cons_of_mem _ hx)) (fun e => ha2 (by rw [← e]; exact hx))), hS⟩
  refine ⟨⟨bo, bi, lo ++ [(nm, m1)], li ++ [(nm, m2)], ⟨(k5 g hgl (hgne hG.mo) (hgne hG.mi)).trans hG.cells, k6', k7', by simp [hG.no], by simp [hG.ni], ?_, ?_, ?_, ?_, ?_⟩⟩, ?_⟩
  · intro p hp
    rcases List.mem_append.1 hp with hp | hp
    · exact hset (List.mem_append_left _ (List.mem_map.2 ⟨p, hp, rfl⟩)) (hG.so p hp)
    · obtain rfl := List.mem_singleton.1 hp
      exact ⟨[], n1, fun x => ⟨fun h => (by cases h), fun h => absurd (hG.inN _ _ h).1 hnew⟩⟩
  · intro p hp
    rcases List.mem_append.1 hp with hp | hp
    · exact hset (List.mem_append_right _ (List.mem_map.2 ⟨p, hp, rfl⟩)) (hG.si p hp)
    · obtain rfl := List.mem_singleton.1 hp
      exact ⟨[], n3, fun x => ⟨fun h => (by cases h), fun h => absurd (hG.inN _ _ h).2 hnew⟩⟩
  · have hp : (bo :: bi :: ((lo ++ [(nm, m1)]).map Prod.snd ++ (li ++ [(nm, m2)]).map Prod.snd)).Perm (m1 :: m2 :: bo :: bi :: (lo.map Prod.snd ++ li.map Prod.snd)) := by
      simp only [List.map_append, List.map_cons, List.map_nil]
      have e1 : (bo :: bi :: (lo.map Prod.snd ++ [m1] ++ (li.map Prod.snd ++ [m2]))).Perm ((bo :: bi :: (lo.map Prod.snd ++ li.map Prod.snd)) ++ [m1, m2]) := by
        simp only [List.cons_append, List.append_assoc]
        refine List.Perm.cons _ (List.Perm.cons _ (List.Perm.append_left _ ?_))
        simp only [List.nil_append]
        have : (m1 :: (li.map Prod.snd ++ [m2])).Perm (li.map Prod.snd ++ [m1, m2]) := by
          have := (List.perm_middle (a := m1) (l₁ := li.map Prod.snd) (l₂ := [m2])).symm
          simpa using this
        exact this
      exact e1.trans List.perm_append_comm
    rw [hp.nodup_iff, List.nodup_cons, List.nodup_cons, List.nodup_cons, List.nodup_cons]
    have hlt : ∀ x ∈ bo :: bi :: (lo.map Prod.snd ++ li.map Prod.snd), x < W.heap.size := by
      intro x hx
      rcases List.mem_cons.1 hx with rfl | hx
      · exact hbol
      · rcases List.mem_cons.1 hx with rfl | hx
        · exact hbil
        · exact hsz x hx
    refine ⟨fun hm => ?_, fun hm => ?_, ha1, ha2, ha3⟩
    · rcases List.mem_cons.1 hm with e | hm
      · exact n5 e
      · have := hlt _ hm; omega
    · have := hlt _ hm; omega
  · intro k hk
    simp only [List.map_append, List.map_cons, List.map_nil, List.mem_cons, List.mem_append, List.not_mem_nil, or_false] at hk
    rcases hk with rfl | rfl | rfl | (hk | rfl) | (hk | rfl)
    · exact hbase _ (by simp)
    · exact hbase _ (by simp)
    · exact hbase _ (by simp)
    · exact hbase _ (by simp only [List.mem_cons, List.mem_append]; exact .inr (.inr (.inr (.inl hk))))
    · omega
    · exact hbase _ (by simp only [List.mem_cons, List.mem_append]; exact .inr (.inr (.inr (.inr hk))))
    · omega
  · intro x y hxy
    exact ⟨List.mem_append_left _ (hG.inN x y hxy).1, List.mem_append_left _ (hG.inN x y hxy).2⟩
  · have hbo' := hbase bo (by simp)
    have hbi' := hbase bi (by simp)
    refine ⟨⟨k1, k2, k3, k4, fun k hk => k5 k (by omega) (by omega) (by omega)⟩, fun k c e f hk => (k5 k (Array.getElem?_eq_some_iff.1 hk).1 (fun e1 => ?_) (fun e1 => ?_)).trans hk⟩
    · obtain ⟨es, clock, hb, _⟩ := hG.mo
      rw [e1, hb] at hk; cases hk
    · obtain ⟨es, clock, hb, _⟩ := hG.mi
      rw [e1, hb] at hk; cases hk
end Go.Proofs.Ytlccejbomgknkaa
