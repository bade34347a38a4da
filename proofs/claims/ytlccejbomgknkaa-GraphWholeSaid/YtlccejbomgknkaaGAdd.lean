/- Add: names are laid into the graph, each with no edges. -/
import Derived.Test.YtlccejbomgknkaaGSeven
import Derived.Deep.RegionHeld
namespace Go.Proofs.Ytlccejbomgknkaa
set_option linter.unusedVariables false
set_option linter.unusedSimpArgs false
open Go.RowKit Go.Maps Go.Proofs.YtlccejbomgknkaaW.PrintWords Go.Proofs.YtlccejbomgknkaaW.PrintLast

theorem C_string_kept {w w' : World} {B : Nat} {A : Option Addr} {n : Nat} {xs : List ByteArray} (h : Kd.C Kd.string w A n xs) (hk : KeptW B w w') : Kd.C Kd.string w' A n xs := by
  obtain ⟨h1, h2, h3⟩ := h
  refine ⟨h1, h2, fun hn => ?_⟩
  obtain ⟨ad, hA, hc⟩ := h3 hn
  refine ⟨ad, hA, fun j p hj => ?_⟩
  obtain ⟨c, hl, hR, hcell⟩ := hc j p hj
  exact ⟨c, hl, hR, fun i u hi => hk.cell (hcell i u hi)⟩

theorem Gr.drew {w : World} {B g bo bi : Nat} {N : List ByteArray} {E : Rel} {lo li : List (ByteArray × Nat)} (h : Gr w B g N E bo bi lo li) : Gr w.drew B g N E bo bi lo li :=
  ⟨h.cells, h.mo, h.mi, h.no, h.ni, h.so, h.si, h.apart, h.base, h.inN⟩

/-- What the temporaries hold, by what has come up. -/
structure Slots7 (bo bi : Nat) (b : Nat → Bool) (v25 v30 v32 v33 v34 v35 v36 v37 : Value) (m1 m2 s1 s2 : Nat) : Prop where
  h25 : b 3 = true → v25 = .map (some bo)
  h30 : b 8 = true → v30 = .map (some bi)
  h32 : b 10 = true → v32 = .map (some m1)
  h33 : b 11 = true → v33 = .map (some m2)
  h34 : b 12 = true → v34 = .tuple #[.map none, .int .i64 (s1 : Nat)]
  h35 : b 13 = true → v35 = .int .i64 (s1 : Nat)
  h36 : b 15 = true → v36 = .tuple #[.map none, .int .i64 (s2 : Nat)]
  h37 : b 16 = true → v37 = .int .i64 (s2 : Nat)

/-- What Add leaves: the names of l are there too. -/
def Added (w : World) (B g : Nat) (N l : List ByteArray) (E : Rel) (w' : World) : Prop :=
  ∃ N', GraphAt w' B g N' E ∧ (∀ x, x ∈ N' ↔ x ∈ N ∨ x ∈ l) ∧ N'.length ≤ N.length + l.length ∧ KeptW B w w'

theorem take_mem {l : List ByteArray} {k : Nat} (hk : k < l.length) {nm : ByteArray} (hn : nm = rdOf ByteArray.empty l (k : Int)) (x : ByteArray) : x ∈ l.take (k + 1) ↔ x ∈ l.take k ∨ x = nm := by
  have : nm = l[k] := by
    rw [hn]
    unfold rdOf
    rw [Int.toNat_natCast, List.getD_eq_getElem?_getD, List.getElem?_eq_getElem hk]
    rfl
  rw [List.take_succ_eq_append_getElem hk, this, List.mem_append, List.mem_singleton]
theorem take_at {l : List ByteArray} {k : Nat} (hk : k < l.length) {nm : ByteArray} (hn : nm = rdOf ByteArray.empty l (k : Int)) : nm ∈ l := by
  have : nm = l[k] := by
    rw [hn]
    unfold rdOf
    rw [Int.toNat_natCast, List.getD_eq_getElem?_getD, List.getElem?_eq_getElem hk]
    rfl
  rw [this]
  exact List.getElem_mem hk
def T7 : Bool × List (List Nat × List Nat) := (true, [([], []), ([0], [0]), ([1], [1]), ([2], [2]), ([], []), ([], []), ([5], [5]), ([6], [6]), ([7], [7]), ([], []), ([], []), ([], []), ([3, 4, 8], [3, 4]), ([12], [12]), ([3, 13, 10, 12, 0, 1, 2, 3, 4, 8, 10, 12], [3, 10, 13]), ([8, 9, 14, 0, 1, 2, 3, 4, 8, 10, 12, 13, 14], [8, 9]), ([15], [15]), ([8, 16, 11, 15, 0, 1, 2, 3, 4, 5, 6, 7, 8, 9, 10, 11, 12, 13, 14, 15], [8, 11, 16])])
def B7 : List Nat := [0, 1, 3, 7, 0, 0, 32, 96, 224, 0, 0, 0, 511, 4607, 13823, 30719, 63487, 131071]
theorem tab7 : rtab .any (opsOf Try.f38 7) = T7 := by kernel_rfl
theorem bits7 : waitsOk T7.2 B7 = true := by kernel_rfl

set_option maxRecDepth 100000 in
set_option maxHeartbeats 4000000 in
theorem Add_any {w : World} {B g : Nat} {N : List ByteArray} {E : Rel} (h : GraphAt w B g N E) (hB : B ≤ w.heap.size) (A : Option Addr) (c : Nat) (l : List ByteArray) (hl : Kd.C Kd.string w A l.length l) (hsz : ∀ x ∈ l, x.size ≤ maxLen) :
    Calls Try.prog 38 #[.pointer (some ⟨g, 0, none⟩), .slice A l.length c] w fun e w' => e = .returned (.int .i64 0) ∧ Added w B g N l E w' := by
  have hlen := hl.2.1
  have h0 : Added w B g N (l.take 0) E w := ⟨N, h, by simp, by simp, KeptW.refl _ _⟩
  have H0 := Lib.hid h0
  have HL := Lib.hid hl
  have HS := Lib.hid hsz
  have qm := fun (w : World) (r : Option Nat) => Go.run_eql_map_nil (P := Try.prog) w 70 9 4 r Try.underlying70
  clear h0 hl hsz h
  go_enter Try.func38, Try.ntmps38
  go_wp2
  go_loopg [11] (l.length + 1) (fun q v wr => ∃ k : Nat, v = .int .i64 k ∧ k ≤ l.length ∧ q + k = l.length + 1 ∧ Hid (Added w B g N (l.take k) E wr))
  case atStart => exact ⟨0, rfl, by omega, by omega, H0⟩
  case round =>
    obtain ⟨k, rfl, hk, hq, HA⟩ := hrel
    clear H0
    by_cases hlt : k < l.length
    · obtain ⟨N', hG', hmem, hln, hK⟩ := HA.out
      have hl' := C_string_kept HL.out hK
      obtain ⟨ad, hA, hcell⟩ := Kd.at_string hl' (k : Int) (by omega) (by omega)
      subst hA
      obtain ⟨nm, hnm⟩ : ∃ nm, nm = rdOf ByteArray.empty l (k : Int) := ⟨_, rfl⟩
      rw [← hnm] at hcell
      simp only [Int.toNat_natCast] at hcell
      have HN := Lib.hid hnm
      obtain ⟨bo, bi, lo, li, hG⟩ := hG'
      have c0 := hG.cell0
      have c1 := hG.cell1
      by_cases hin : nm ∈ N'
      · obtain ⟨b, _, hget, _⟩ := hG.outOf hin
        have hrun := hG.mo.lookup Try.underlying65 Try.underlying9 (zero70 wr) nm false
        rw [hget] at hrun
        simp only [Bool.false_eq_true, if_false, Option.getD_some] at hrun
        have X := Lib.hid (And.intro hmem (And.intro hln (And.intro hK (And.intro hG hin))))
        clear hget hnm hl' hmem hln hK hG hin
        go_wp2
        go_roundg (l.length - k)
        case measure => omega
        case rel =>
          obtain ⟨hmem, hln, hK, hG, hin⟩ := X.out
          refine ⟨k + 1, by go_num, by omega, by omega, ⟨N', ⟨bo, bi, lo, li, hG⟩, fun x => ?_, ?_, hK⟩⟩
          · rw [take_mem hlt HN.out, hmem x]
            constructor
            · rintro (h1 | h1)
              · exact .inl h1
              · exact .inr (.inl h1)
            · rintro (h1 | h1 | h1)
              · exact .inl h1
              · exact .inr h1
              · exact (hmem x).1 (h1 ▸ hin)
          · rw [List.length_take] at hln ⊢
            omega
      · have hget : getE (encM lo) nm = none := getE_encM_none (by rw [hG.no]; exact hin)
        have hrun := hG.mo.lookup Try.underlying65 Try.underlying9 (zero70 wr) nm false
        rw [hget] at hrun
        simp only [Bool.false_eq_true, if_false, Option.getD_none] at hrun
        have X := Lib.hid (And.intro hmem (And.intro hln (And.intro hK (And.intro hG hin))))
        clear hget hnm hl' hmem hln hK hG hin
        go_wp2
        refine start_ (n := 18) (S := fun _ => True) (ds := []) #[false, false, false, false, false, false, false, false, false, false, false, false, false, false, false, false, false, false] (by kernel_rfl) rfl rfl trivial (fun _ => ?_)
        refine with_tabW tab7 bits7 (fun HT_ HW_ => ?_)
        refine pure_ (i := 0) (N := some 22) (v := ?_) (a' := ?_) #[true, false, false, false, false, false, false, false, false, false, false, false, false, false, false, false, false, false] rfl rfl (any_of HT_.out (by kernel_rfl)) (fun _ _ _ h => h) (Or.inl ⟨by rfl, ?_⟩) ?_ ?_
        rotate_left
        · intro w'
          go_simp
          with_reducible rfl
        rotate_left
        · simp only [Act.put, List.setIfInBounds_toArray, List.set_cons_zero, List.set_cons_succ]
          rfl
        refine pure_ (i := 1) (N := some 23) (v := ?_) (a' := ?_) #[true, true, false, false, false, false, false, false, false, false, false, false, false, false, false, false, false, false] rfl rfl (any_of HT_.out (by kernel_rfl)) (fun _ _ _ h => h) (Or.inl ⟨by rfl, ?_⟩) ?_ ?_
        rotate_left
        · intro w'
          go_simp
          with_reducible rfl
        rotate_left
        · simp only [Act.put, List.setIfInBounds_toArray, List.set_cons_zero, List.set_cons_succ]
          rfl
        refine pure_ (i := 2) (N := some 24) (v := ?_) (a' := ?_) #[true, true, true, false, false, false, false, false, false, false, false, false, false, false, false, false, false, false] rfl rfl (any_of HT_.out (by kernel_rfl)) (fun _ _ _ h => h) (Or.inl ⟨by rfl, ?_⟩) ?_ ?_
        rotate_left
        · intro w'
          go_simp
          with_reducible rfl
        rotate_left
        · simp only [Act.put, List.setIfInBounds_toArray, List.set_cons_zero, List.set_cons_succ]
          rfl
        refine pure_ (i := 4) (N := some 26) (v := ?_) (a' := ?_) #[true, true, true, false, true, false, false, false, false, false, false, false, false, false, false, false, false, false] rfl rfl (any_of HT_.out (by kernel_rfl)) (fun _ _ _ h => h) (Or.inl ⟨by rfl, ?_⟩) ?_ ?_
        rotate_left
        · intro w'
          go_simp
          with_reducible rfl
        rotate_left
        · simp only [Act.put, List.setIfInBounds_toArray, List.set_cons_zero, List.set_cons_succ]
          rfl
        refine pure_ (i := 5) (N := some 27) (v := ?_) (a' := ?_) #[true, true, true, false, true, true, false, false, false, false, false, false, false, false, false, false, false, false] rfl rfl (any_of HT_.out (by kernel_rfl)) (fun _ _ _ h => h) (Or.inl ⟨by rfl, ?_⟩) ?_ ?_
        rotate_left
        · intro w'
          go_simp
          with_reducible rfl
        rotate_left
        · simp only [Act.put, List.setIfInBounds_toArray, List.set_cons_zero, List.set_cons_succ]
          rfl
        refine pure_ (i := 6) (N := some 28) (v := ?_) (a' := ?_) #[true, true, true, false, true, true, true, false, false, false, false, false, false, false, false, false, false, false] rfl rfl (any_of HT_.out (by kernel_rfl)) (fun _ _ _ h => h) (Or.inl ⟨by rfl, ?_⟩) ?_ ?_
        rotate_left
        · intro w'
          go_simp
          with_reducible rfl
        rotate_left
        · simp only [Act.put, List.setIfInBounds_toArray, List.set_cons_zero, List.set_cons_succ]
          rfl
        refine pure_ (i := 7) (N := some 29) (v := ?_) (a' := ?_) #[true, true, true, false, true, true, true, true, false, false, false, false, false, false, false, false, false, false] rfl rfl (any_of HT_.out (by kernel_rfl)) (fun _ _ _ h => h) (Or.inl ⟨by rfl, ?_⟩) ?_ ?_
        rotate_left
        · intro w'
          go_simp
          with_reducible rfl
        rotate_left
        · simp only [Act.put, List.setIfInBounds_toArray, List.set_cons_zero, List.set_cons_succ]
          rfl
        refine pure_ (i := 9) (N := some 31) (v := ?_) (a' := ?_) #[true, true, true, false, true, true, true, true, false, true, false, false, false, false, false, false, false, false] rfl rfl (any_of HT_.out (by kernel_rfl)) (fun _ _ _ h => h) (Or.inl ⟨by rfl, ?_⟩) ?_ ?_
        rotate_left
        · intro w'
          go_simp
          with_reducible rfl
        rotate_left
        · simp only [Act.put, List.setIfInBounds_toArray, List.set_cons_zero, List.set_cons_succ]
          rfl
        obtain ⟨hmem, hln, hK, hG0, hin⟩ := X.out
        have hG := hG0.drew
        have hKd : KeptW B wr wr.drew := ⟨(Below.refl _ _).drew, fun _ _ _ _ h => h⟩
        have hnsz : nm.size ≤ maxLen := HS.out nm (take_at hlt HN.out)
        have hBw : B ≤ wr.heap.size := Nat.le_trans hB hK.below.size
        clear c0 c1 hrun hcell
        generalize wr.drew = W at hG hKd ⊢
        have hne : bo ≠ bi := by
          have := hG.apart
          rw [List.nodup_cons] at this
          intro e
          exact this.1 (by rw [e]; exact List.mem_cons_self)
        have hbo := hG.mo.lt
        have hbil := hG.mi.lt
        have hno : nm ∉ (encM lo).map Prod.fst := by rw [fst_encM, hG.no]; exact hin
        have hni : nm ∉ (encM li).map Prod.fst := by rw [fst_encM, hG.ni]; exact hin
        have hgl : g < W.heap.size := (Array.getElem?_eq_some_iff.1 hG.cells).1
        have hgo : g ≠ bo := by
          intro e
          obtain ⟨es, clock, hb, _⟩ := hG.mo
          rw [← e, hG.cells] at hb; cases hb
        have hgi : g ≠ bi := by
          intro e
          obtain ⟨es, clock, hb, _⟩ := hG.mi
          rw [← e, hG.cells] at hb; cases hb
        have hcg := hG.cells
        refine inv_ [3, 8, 10, 11, 12, 13, 14, 15, 16, 17] (fun b a w => ∃ (v25 v30 v32 v33 v34 v35 v36 v37 : Value) (m1 m2 s1 s2 : Nat), a = ⟨#[.pointer (some ⟨g, 0, none⟩), .slice (some ad) l.length c, undef, undef, .int .i64 0, undef, .string nm, .pointer (some ⟨g, 0, none⟩), .bool false, .slice (some ad) l.length c, .int .i64 l.length, .int .i64 k, .bool true, .pointer (some (ad.add k)), .string nm, .pointer (some ⟨g, 0, none⟩), .pointer (some ⟨g, 0, none⟩), .pointer (some ⟨g, 0, none⟩), .map (some bo), .string nm, .map none, .bool true, .pointer (some ⟨g, 0, none⟩), .pointer (some ⟨g, 0, none⟩), .pointer (some ⟨g, 0, none⟩), v25, .string nm, .pointer (some ⟨g, 0, none⟩), .pointer (some ⟨g, 0, none⟩), .pointer (some ⟨g, 1, none⟩), v30, .string nm, v32, v33, v34, v35, v36, v37, u38], []⟩ ∧ Slots7 bo bi b v25 v30 v32 v33 v34 v35 v36 v37 m1 m2 s1 s2 ∧ R7 W bo bi (encM lo) (encM li) nm b m1 m2 s1 s2 w) HT_.out HW_.out (by kernel_rfl) (by kernel_rfl) ?_ ?_ ?_
        · refine ⟨_, _, _, _, _, _, _, _, 0, 0, 0, 0, rfl, ⟨by simp, by simp, by simp, by simp, by simp, by simp, by simp, by simp⟩, ⟨rfl, rfl, rfl, Nat.le_refl _, fun _ _ _ _ => rfl, ?_, ?_, (by intro h; cases h), (by intro h; cases h), (by intro h; cases h)⟩⟩
          · unfold Stage; simpa using hG.mo
          · unfold Stage; simpa using hG.mi
        · refine steps_cons ?c3 <| steps_cons ?c8 <| steps_cons ?c10 <| steps_cons ?c11 <| steps_cons ?c12 <| steps_cons ?c13 <| steps_cons ?c14 <| steps_cons ?c15 <| steps_cons ?c16 <| steps_cons ?c17 <| steps_nil
          case c3 =>
            intro b a w hI hbi hwt hd
            obtain ⟨v25, v30, v32, v33, v34, v35, v36, v37, m1, m2, s1, s2, rfl, hS, hR⟩ := hI
            refine ⟨_, rfl, fun K hK => ?_⟩
            rw [if_pos (by rfl)]
            unfold Oper.wp
            have hc : w.cell? ⟨g, 0, none⟩ = some (.map (some bo)) := by simp [World.cell?, hR.kept g hgl hgo hgi, hcg]
            go_simp
            exact hK.out _ _ ⟨.map (some bo), v30, v32, v33, v34, v35, v36, v37, m1, m2, s1, s2, rfl, ⟨(fun _ => rfl), (fun h => hS.h30 (by rw [up_ne (by omega)] at h; exact h)), (fun h => hS.h32 (by rw [up_ne (by omega)] at h; exact h)), (fun h => hS.h33 (by rw [up_ne (by omega)] at h; exact h)), (fun h => hS.h34 (by rw [up_ne (by omega)] at h; exact h)), (fun h => hS.h35 (by rw [up_ne (by omega)] at h; exact h)), (fun h => hS.h36 (by rw [up_ne (by omega)] at h; exact h)), (fun h => hS.h37 (by rw [up_ne (by omega)] at h; exact h))⟩, hR.quiet 3 (by omega)⟩
          case c8 =>
            intro b a w hI hbi hwt hd
            obtain ⟨v25, v30, v32, v33, v34, v35, v36, v37, m1, m2, s1, s2, rfl, hS, hR⟩ := hI
            refine ⟨_, rfl, fun K hK => ?_⟩
            rw [if_pos (by rfl)]
            unfold Oper.wp
            have hc : w.cell? ⟨g, 1, none⟩ = some (.map (some bi)) := by simp [World.cell?, hR.kept g hgl hgo hgi, hcg]
            go_simp
            exact hK.out _ _ ⟨v25, .map (some bi), v32, v33, v34, v35, v36, v37, m1, m2, s1, s2, rfl, ⟨(fun h => hS.h25 (by rw [up_ne (by omega)] at h; exact h)), (fun _ => rfl), (fun h => hS.h32 (by rw [up_ne (by omega)] at h; exact h)), (fun h => hS.h33 (by rw [up_ne (by omega)] at h; exact h)), (fun h => hS.h34 (by rw [up_ne (by omega)] at h; exact h)), (fun h => hS.h35 (by rw [up_ne (by omega)] at h; exact h)), (fun h => hS.h36 (by rw [up_ne (by omega)] at h; exact h)), (fun h => hS.h37 (by rw [up_ne (by omega)] at h; exact h))⟩, hR.quiet 8 (by omega)⟩
          case c10 =>
            intro b a w hI hbi hwt hd
            obtain ⟨v25, v30, v32, v33, v34, v35, v36, v37, m1, m2, s1, s2, rfl, hS, hR⟩ := hI
            refine ⟨_, rfl, fun K hK => ?_⟩
            rw [if_pos (by rfl)]
            unfold Oper.wp
            have hmm := @run_makeMap Try.prog
            go_simp
            exact hK.out _ _ ⟨v25, v30, .map (some w.heap.size), v33, v34, v35, v36, v37, w.heap.size, m2, s1, s2, rfl, ⟨(fun h => hS.h25 (by rw [up_ne (by omega)] at h; exact h)), (fun h => hS.h30 (by rw [up_ne (by omega)] at h; exact h)), (fun _ => rfl), (fun h => hS.h33 (by rw [up_ne (by omega)] at h; exact h)), (fun h => hS.h34 (by rw [up_ne (by omega)] at h; exact h)), (fun h => hS.h35 (by rw [up_ne (by omega)] at h; exact h)), (fun h => hS.h36 (by rw [up_ne (by omega)] at h; exact h)), (fun h => hS.h37 (by rw [up_ne (by omega)] at h; exact h))⟩, hR.make1 hbi (hd 14 (by kernel_rfl))⟩
          case c11 =>
            intro b a w hI hbi hwt hd
            obtain ⟨v25, v30, v32, v33, v34, v35, v36, v37, m1, m2, s1, s2, rfl, hS, hR⟩ := hI
            refine ⟨_, rfl, fun K hK => ?_⟩
            rw [if_pos (by rfl)]
            unfold Oper.wp
            have hmm := @run_makeMap Try.prog
            go_simp
            exact hK.out _ _ ⟨v25, v30, v32, .map (some w.heap.size), v34, v35, v36, v37, m1, w.heap.size, s1, s2, rfl, ⟨(fun h => hS.h25 (by rw [up_ne (by omega)] at h; exact h)), (fun h => hS.h30 (by rw [up_ne (by omega)] at h; exact h)), (fun h => hS.h32 (by rw [up_ne (by omega)] at h; exact h)), (fun _ => rfl), (fun h => hS.h34 (by rw [up_ne (by omega)] at h; exact h)), (fun h => hS.h35 (by rw [up_ne (by omega)] at h; exact h)), (fun h => hS.h36 (by rw [up_ne (by omega)] at h; exact h)), (fun h => hS.h37 (by rw [up_ne (by omega)] at h; exact h))⟩, hR.make2 hbi (hd 17 (by kernel_rfl))⟩
          case c12 =>
            intro b a w hI hbi hwt hd
            obtain ⟨v25, v30, v32, v33, v34, v35, v36, v37, m1, m2, s1, s2, rfl, hS, hR⟩ := hI
            refine ⟨_, rfl, fun K hK => ?_⟩
            rw [if_pos (by rfl)]
            unfold Oper.wp
            obtain rfl := hS.h25 (hwt 3 (by kernel_rfl))
            obtain ⟨st, w', hrun, hR'⟩ := hR.entry1 hne hbo hnsz hno hbi (hd 14 (by kernel_rfl))
            go_simp
            exact hK.out _ _ ⟨.map (some bo), v30, v32, v33, .tuple #[.map none, .int .i64 (st : Nat)], v35, v36, v37, m1, m2, st, s2, rfl, ⟨(fun h => hS.h25 (by rw [up_ne (by omega)] at h; exact h)), (fun h => hS.h30 (by rw [up_ne (by omega)] at h; exact h)), (fun h => hS.h32 (by rw [up_ne (by omega)] at h; exact h)), (fun h => hS.h33 (by rw [up_ne (by omega)] at h; exact h)), (fun _ => rfl), (fun h => absurd h (by rw [up_ne (by omega), (hd 13 (by kernel_rfl))]; simp)), (fun h => hS.h36 (by rw [up_ne (by omega)] at h; exact h)), (fun h => hS.h37 (by rw [up_ne (by omega)] at h; exact h))⟩, hR'⟩
          case c13 =>
            intro b a w hI hbi hwt hd
            obtain ⟨v25, v30, v32, v33, v34, v35, v36, v37, m1, m2, s1, s2, rfl, hS, hR⟩ := hI
            refine ⟨_, rfl, fun K hK => ?_⟩
            rw [if_pos (by rfl)]
            unfold Oper.wp
            obtain rfl := hS.h34 (hwt 12 (by kernel_rfl))
            go_simp
            exact hK.out _ _ ⟨v25, v30, v32, v33, .tuple #[.map none, .int .i64 (s1 : Nat)], .int .i64 (s1 : Nat), v36, v37, m1, m2, s1, s2, rfl, ⟨(fun h => hS.h25 (by rw [up_ne (by omega)] at h; exact h)), (fun h => hS.h30 (by rw [up_ne (by omega)] at h; exact h)), (fun h => hS.h32 (by rw [up_ne (by omega)] at h; exact h)), (fun h => hS.h33 (by rw [up_ne (by omega)] at h; exact h)), (fun h => hS.h34 (by rw [up_ne (by omega)] at h; exact h)), (fun _ => rfl), (fun h => hS.h36 (by rw [up_ne (by omega)] at h; exact h)), (fun h => hS.h37 (by rw [up_ne (by omega)] at h; exact h))⟩, hR.quiet 13 (by omega)⟩
          case c14 =>
            intro b a w hI hbi hwt hd
            obtain ⟨v25, v30, v32, v33, v34, v35, v36, v37, m1, m2, s1, s2, rfl, hS, hR⟩ := hI
            refine ⟨_, rfl, fun K hK => ?_⟩
            rw [if_pos (by rfl)]
            unfold Oper.wp
            obtain rfl := hS.h25 (hwt 3 (by kernel_rfl))
            obtain rfl := hS.h35 (hwt 13 (by kernel_rfl))
            obtain rfl := hS.h32 (hwt 10 (by kernel_rfl))
            obtain ⟨w', hrun, hR'⟩ := hR.store1 hne hbo (hwt 12 (by kernel_rfl)) hbi
            go_simp
            exact hK.out _ _ ⟨.map (some bo), v30, .map (some m1), v33, v34, .int .i64 (s1 : Nat), v36, v37, m1, m2, s1, s2, rfl, ⟨(fun h => hS.h25 (by rw [up_ne (by omega)] at h; exact h)), (fun h => hS.h30 (by rw [up_ne (by omega)] at h; exact h)), (fun h => hS.h32 (by rw [up_ne (by omega)] at h; exact h)), (fun h => hS.h33 (by rw [up_ne (by omega)] at h; exact h)), (fun h => hS.h34 (by rw [up_ne (by omega)] at h; exact h)), (fun h => hS.h35 (by rw [up_ne (by omega)] at h; exact h)), (fun h => hS.h36 (by rw [up_ne (by omega)] at h; exact h)), (fun h => hS.h37 (by rw [up_ne (by omega)] at h; exact h))⟩, hR'⟩
          case c15 =>
            intro b a w hI hbi hwt hd
            obtain ⟨v25, v30, v32, v33, v34, v35, v36, v37, m1, m2, s1, s2, rfl, hS, hR⟩ := hI
            refine ⟨_, rfl, fun K hK => ?_⟩
            rw [if_pos (by rfl)]
            unfold Oper.wp
            obtain rfl := hS.h30 (hwt 8 (by kernel_rfl))
            obtain ⟨st, w', hrun, hR'⟩ := hR.entry2 hne hbil hnsz hni hbi (hd 17 (by kernel_rfl))
            go_simp
            exact hK.out _ _ ⟨v25, .map (some bi), v32, v33, v34, v35, .tuple #[.map none, .int .i64 (st : Nat)], v37, m1, m2, s1, st, rfl, ⟨(fun h => hS.h25 (by rw [up_ne (by omega)] at h; exact h)), (fun h => hS.h30 (by rw [up_ne (by omega)] at h; exact h)), (fun h => hS.h32 (by rw [up_ne (by omega)] at h; exact h)), (fun h => hS.h33 (by rw [up_ne (by omega)] at h; exact h)), (fun h => hS.h34 (by rw [up_ne (by omega)] at h; exact h)), (fun h => hS.h35 (by rw [up_ne (by omega)] at h; exact h)), (fun _ => rfl), (fun h => absurd h (by rw [up_ne (by omega), (hd 16 (by kernel_rfl))]; simp))⟩, hR'⟩
          case c16 =>
            intro b a w hI hbi hwt hd
            obtain ⟨v25, v30, v32, v33, v34, v35, v36, v37, m1, m2, s1, s2, rfl, hS, hR⟩ := hI
            refine ⟨_, rfl, fun K hK => ?_⟩
            rw [if_pos (by rfl)]
            unfold Oper.wp
            obtain rfl := hS.h36 (hwt 15 (by kernel_rfl))
            go_simp
            exact hK.out _ _ ⟨v25, v30, v32, v33, v34, v35, .tuple #[.map none, .int .i64 (s2 : Nat)], .int .i64 (s2 : Nat), m1, m2, s1, s2, rfl, ⟨(fun h => hS.h25 (by rw [up_ne (by omega)] at h; exact h)), (fun h => hS.h30 (by rw [up_ne (by omega)] at h; exact h)), (fun h => hS.h32 (by rw [up_ne (by omega)] at h; exact h)), (fun h => hS.h33 (by rw [up_ne (by omega)] at h; exact h)), (fun h => hS.h34 (by rw [up_ne (by omega)] at h; exact h)), (fun h => hS.h35 (by rw [up_ne (by omega)] at h; exact h)), (fun h => hS.h36 (by rw [up_ne (by omega)] at h; exact h)), (fun _ => rfl)⟩, hR.quiet 16 (by omega)⟩
          case c17 =>
            intro b a w hI hbi hwt hd
            obtain ⟨v25, v30, v32, v33, v34, v35, v36, v37, m1, m2, s1, s2, rfl, hS, hR⟩ := hI
            refine ⟨_, rfl, fun K hK => ?_⟩
            rw [if_pos (by rfl)]
            unfold Oper.wp
            obtain rfl := hS.h30 (hwt 8 (by kernel_rfl))
            obtain rfl := hS.h37 (hwt 16 (by kernel_rfl))
            obtain rfl := hS.h33 (hwt 11 (by kernel_rfl))
            obtain ⟨w', hrun, hR'⟩ := hR.store2 hne hbil (hwt 15 (by kernel_rfl)) hbi
            go_simp
            exact hK.out _ _ ⟨v25, .map (some bi), v32, .map (some m2), v34, v35, v36, .int .i64 (s2 : Nat), m1, m2, s1, s2, rfl, ⟨(fun h => hS.h25 (by rw [up_ne (by omega)] at h; exact h)), (fun h => hS.h30 (by rw [up_ne (by omega)] at h; exact h)), (fun h => hS.h32 (by rw [up_ne (by omega)] at h; exact h)), (fun h => hS.h33 (by rw [up_ne (by omega)] at h; exact h)), (fun h => hS.h34 (by rw [up_ne (by omega)] at h; exact h)), (fun h => hS.h35 (by rw [up_ne (by omega)] at h; exact h)), (fun h => hS.h36 (by rw [up_ne (by omega)] at h; exact h)), (fun h => hS.h37 (by rw [up_ne (by omega)] at h; exact h))⟩, hR'⟩
        · intro b a w hb hI
          obtain ⟨v25, v30, v32, v33, v34, v35, v36, v37, m1, m2, s1, s2, rfl, hS, hR⟩ := hI
          have hall : ∀ j, 10 ≤ j → j ≤ 17 → b j = true := by
            intro j h1 h2
            refine hb j ?_
            have : j = 10 ∨ j = 11 ∨ j = 12 ∨ j = 13 ∨ j = 14 ∨ j = 15 ∨ j = 16 ∨ j = 17 := by omega
            rcases this with rfl | rfl | rfl | rfl | rfl | rfl | rfl | rfl <;> rfl
          obtain ⟨hGA, hKA⟩ := hG.add (by rw [show W.heap.size = W.heap.size from rfl]; exact Nat.le_trans hBw hKd.below.size) hin hR hall
          have Y := Lib.hid (And.intro hmem (And.intro hln (And.intro hGA (hK.trans (hKd.trans hKA)))))
          clear hGA hKA hS hR hb hall hmem hln hK hG0 hin hG hKd hne hbo hbil hno hni hgl hgo hgi hcg hBw hnsz HT_ HW_
          go_wp2
          go_roundg (l.length - k)
          case measure => omega
          case rel =>
            obtain ⟨hmem, hln, hGA, hKA⟩ := Y.out
            refine ⟨k + 1, by go_num, by omega, by omega, ⟨N' ++ [nm], hGA, fun x => ?_, ?_, hKA⟩⟩
            · rw [take_mem hlt HN.out, List.mem_append, hmem x, List.mem_singleton, or_assoc]
            · rw [List.length_append, List.length_singleton]
              rw [List.length_take] at hln ⊢
              omega
    · have hkl : k = l.length := by omega
      rw [hkl, List.take_length] at HA
      clear hkl
      go_wp2
      go_ret
      exact ⟨rfl, HA.out⟩
end Go.Proofs.Ytlccejbomgknkaa
