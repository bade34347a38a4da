/- The program's tree in memory: a journal and a map; New, note, Write, Read, Remove, Len, Mark. -/
import Derived.Test.YtpmeefdegcllkaaTPath
import Derived.Test.YtpmeefdegcllkaaTSort
import Derived.BigRegion
namespace Go.Proofs.Ytpmeefdegcllkaa
set_option linter.unusedVariables false
set_option linter.unusedSimpArgs false
open Go.RowKit Go.Maps Go.Proofs.YtpmeefdegcllkaaW.PrintWords Go.Proofs.YtpmeefdegcllkaaW.PrintLast

abbrev Pr := ByteArray × ByteArray
/-- At block t lies a tree of n changes, its map at block b, the files F. -/
structure TreeAt (w : World) (B t b n : Nat) (F : List Pr) : Prop where
  blk : ∃ cs : Array Value, w.heap[t]? = some (.cells cs 50 (0, 0)) ∧ cs.size = 34 ∧ cs[32]? = some (.int .i64 n) ∧ cs[33]? = some (.map (some b)) ∧ ∀ j, j < 32 → ∃ s, cs[j]? = some (.string s)
  mo : MapAt w b (encT F)
  bt : B ≤ t
  bb : B ≤ b
/-- The tree's two blocks may have turned, nothing else. -/
structure Moved (t b : Nat) (w w' : World) : Prop where
  os : w'.os = w.os
  tape : w'.tape = w.tape
  output : w'.output = w.output
  size : w.heap.size ≤ w'.heap.size
  block : ∀ k, k < w.heap.size → k ≠ t → k ≠ b → w'.heap[k]? = w.heap[k]?
theorem Moved.refl (t b : Nat) (w : World) : Moved t b w w := ⟨rfl, rfl, rfl, Nat.le_refl _, fun _ _ _ _ => rfl⟩
theorem Moved.trans {t b : Nat} {w w' w'' : World} (h : Moved t b w w') (k : Moved t b w' w'') : Moved t b w w'' :=
  ⟨k.os.trans h.os, k.tape.trans h.tape, k.output.trans h.output, Nat.le_trans h.size k.size, fun j hj h1 h2 => (k.block j (Nat.lt_of_lt_of_le hj h.size) h1 h2).trans (h.block j hj h1 h2)⟩
theorem Moved.of_below {t b : Nat} {w w' : World} (h : Below w.heap.size w w') : Moved t b w w' := ⟨h.os, h.tape, h.output, h.size, fun k hk _ _ => h.block k hk⟩
theorem Moved.of_grown {t b r : Nat} {w w' : World} (h : w.grownBy w' (some r)) (hr : r = t ∨ r = b) : Moved t b w w' :=
  ⟨h.os, h.tape, h.output, h.size, fun k hk h1 h2 => h.block k hk (fun e => by injection e with e; rcases hr with hr | hr <;> omega)⟩
theorem Moved.setCell (t b j : Nat) (w : World) (v : Value) : Moved t b w (w.setCell ⟨t, j, none⟩ v) := ⟨rfl, rfl, rfl, by simp, fun k _ h1 _ => Below.heap_setCell _ _ _ _ h1⟩
theorem Moved.below {t b B : Nat} {w w' : World} (h : Moved t b w w') (hB : B ≤ w.heap.size) (ht : B ≤ t) (hb : B ≤ b) : Below B w w' :=
  ⟨h.os, h.tape, h.output, h.size, fun k hk => h.block k (by omega) (by omega) (by omega)⟩
section
variable {w w' : World} {B t b n : Nat} {F : List Pr}
theorem TreeAt.lt (h : TreeAt w B t b n F) : t < w.heap.size ∧ b < w.heap.size := by
  obtain ⟨cs, h1, _⟩ := h.blk
  exact ⟨(Array.getElem?_eq_some_iff.1 h1).1, h.mo.lt⟩
theorem TreeAt.ne (h : TreeAt w B t b n F) : t ≠ b := by
  obtain ⟨cs, h1, _⟩ := h.blk
  obtain ⟨es, clock, hb, _⟩ := h.mo
  rintro rfl
  rw [hb] at h1
  cases h1
theorem TreeAt.below (h : TreeAt w B t b n F) (hb : Below w.heap.size w w') : TreeAt w' B t b n F := by
  obtain ⟨cs, h1, h2⟩ := h.blk
  exact ⟨⟨cs, (hb.block t h.lt.1).trans h1, h2⟩, h.mo.same (hb.block b h.lt.2), h.bt, h.bb⟩
theorem TreeAt.c32 (h : TreeAt w B t b n F) : w.cell? ⟨t, 32, none⟩ = some (.int .i64 n) := by
  obtain ⟨cs, h1, _, h3, _⟩ := h.blk
  simp [World.cell?, h1, h3]
theorem TreeAt.c33 (h : TreeAt w B t b n F) : w.cell? ⟨t, 33, none⟩ = some (.map (some b)) := by
  obtain ⟨cs, h1, _, _, h4, _⟩ := h.blk
  simp [World.cell?, h1, h4]
theorem TreeAt.cj (h : TreeAt w B t b n F) {j : Nat} (hj : j < 32) : ∃ s, w.cell? ⟨t, j, none⟩ = some (.string s) := by
  obtain ⟨cs, h1, _, _, _, h5⟩ := h.blk
  obtain ⟨s, hs⟩ := h5 j hj
  exact ⟨s, by simp [World.cell?, h1, hs]⟩
theorem TreeAt.fr (h : TreeAt w B t b n F) (j : Nat) : w.frozen? ⟨t, j, none⟩ = false := by
  obtain ⟨cs, h1, _⟩ := h.blk
  simp [World.frozen?, h1]
theorem TreeAt.noted (h : TreeAt w B t b n F) {j : Nat} (hj : j < 32) (s : ByteArray) (m : Nat) : TreeAt ((w.setCell ⟨t, j, none⟩ (.string s)).setCell ⟨t, 32, none⟩ (.int .i64 m)) B t b m F := by
  have hne := h.ne
  obtain ⟨cs, h1, h2, h3, h4, h5⟩ := h.blk
  have e1 := blk_set h1 j (.string s)
  have e2 := blk_set e1 32 (.int .i64 m)
  refine ⟨⟨_, e2, by simp [h2], ?_, ?_, fun i hi => ?_⟩, h.mo.same ?_, h.bt, h.bb⟩
  · simp [h2]
  · rw [Array.getElem?_setIfInBounds_ne (by omega), Array.getElem?_setIfInBounds_ne (by omega)]
    exact h4
  · rw [Array.getElem?_setIfInBounds_ne (by omega)]
    by_cases e : j = i
    · subst e
      exact ⟨s, by rw [Array.getElem?_setIfInBounds_self_of_lt (by omega)]⟩
    · rw [Array.getElem?_setIfInBounds_ne e]
      exact h5 i hi
  · rw [Below.heap_setCell _ _ _ _ (fun e => hne e.symm), Below.heap_setCell _ _ _ _ (fun e => hne e.symm)]
end
set_option maxRecDepth 100000 in
set_option maxHeartbeats 4000000 in
theorem note_any {w : World} {B t b n : Nat} {F : List Pr} (h : TreeAt w B t b n F) (hn : n ≤ 1000000) (p : ByteArray) :
    Calls Try.prog 18 #[.pointer (some ⟨t, 0, none⟩), .string p] w fun e w' => e = .returned (.tuple #[]) ∧ TreeAt w' B t b (n + 1) F ∧ Moved t b w w' := by
  have H := Lib.hid h
  obtain ⟨j, hj⟩ : ∃ j, j = n % 32 := ⟨_, rfl⟩
  have hjl : j < 32 := by omega
  have hmod : Int.tmod (n : Int) 32 = (j : Int) := by rw [hj]; norm_cast
  obtain ⟨s0, hc0⟩ := h.cj hjl
  have hc32 := h.c32
  have hf0 := h.fr j
  have hf32 := h.fr 32
  have hjI : (j : Int) < 32 := by omega
  have hj0 : (0 : Int) ≤ (j : Int) := by omega
  have hne : ¬ (32 = j) := by omega
  have hne2 : ¬ (j = 32) := by omega
  have hnI : (n : Int) ≤ 1000000 := by omega
  have hn0 : (0 : Int) ≤ (n : Int) := by omega
  clear h hj
  go_enter Try.func18, Try.ntmps18
  go_wp2_with fail
  go_region
  all_goals
    go_wp2_with fail
    go_end0
    have hb := (H.out.noted hjl p (n + 1))
    refine ⟨rfl, hb.below (pw_below_drewN (Below.refl _ _) 1), ?_⟩
    exact ((Moved.setCell t b j w _).trans (Moved.setCell t b 32 _ _)).trans (Moved.of_below (pw_below_drewN (Below.refl _ _) 1))

/-! ### New -/
def isStr : Value → Bool
  | .string _ => true
  | _ => false
theorem all_str {l : List Value} (h : l.all isStr = true) {j : Nat} (hj : j < l.length) : ∃ s, l[j]? = some (.string s) := by
  have h1 := List.all_eq_true.1 h l[j] (List.getElem_mem hj)
  rw [List.getElem?_eq_getElem hj]
  cases hv : l[j] <;> rw [hv] at h1 <;> first | exact ⟨_, rfl⟩ | cases h1
theorem tree_made {w : World} {B t b : Nat} {cs : Array Value} {l : List Value} (hw : w.heap[t]? = some (.cells cs 50 (0, 0))) (hc : cs = (l ++ [Value.int .i64 (0 : Nat), Value.map (some b)]).toArray) (hl : l.length = 32) (ha : l.all isStr = true) (hm : MapAt w b []) (h1 : B ≤ t) (h2 : B ≤ b) : TreeAt w B t b 0 [] := by
  subst hc
  refine ⟨⟨_, hw, by simp [hl], ?_, ?_, fun j hj => ?_⟩, hm, h1, h2⟩
  · rw [List.getElem?_toArray, List.getElem?_append_right (by omega), hl]; rfl
  · rw [List.getElem?_toArray, List.getElem?_append_right (by omega), hl]; rfl
  · rw [List.getElem?_toArray, List.getElem?_append_left (by omega)]
    exact all_str ha (by omega)
set_option maxRecDepth 100000 in
set_option maxHeartbeats 2000000 in
theorem new_any (w : World) : Calls Try.prog 7 #[] w fun e w' => ∃ t b, e = .returned (.pointer (some ⟨t, 0, none⟩)) ∧ TreeAt w' w.heap.size t b 0 [] ∧ Below w.heap.size w w' := by
  have hmm := @run_makeMap Try.prog
  go_enter Try.func7, Try.ntmps7
  go_wp2_with fail
  go_ret
  refine ⟨w.heap.size + 1, w.heap.size, rfl, ?_, ((Below.refl _ w).alloc (Nat.le_refl _) _).alloc (by simp) _⟩
  have hw := (MapKept.heap_alloc (w.alloc (.map #[] 0)) (.cells ((List.replicate 32 (Value.string ⟨#[]⟩)) ++ [Value.int .i64 (0 : Nat), Value.map (some w.heap.size)]).toArray 50)).1
  rw [World.size_alloc] at hw
  exact tree_made (l := List.replicate 32 (Value.string ⟨#[]⟩)) hw rfl (by simp) (by rfl) ((MapAt.made w).alloc _) (by omega) (Nat.le_refl _)

/-! ### the files, plainly -/
def getF (F : List Pr) (p : ByteArray) : Option ByteArray := (F.find? (fun q => decide (q.1 = p))).map (·.2)
def putF (F : List Pr) (p s : ByteArray) : List Pr := if F.any (fun q => decide (q.1 = p)) then F.map (fun q => if q.1 = p then (p, s) else q) else F ++ [(p, s)]
def delF (F : List Pr) (p : ByteArray) : List Pr := F.filter (fun q => decide (q.1 ≠ p))
theorem getE_encT (F : List Pr) (p : ByteArray) : getE (encT F) p = (getF F p).map Value.string := by
  unfold getE encT getF
  rw [List.find?_map, Option.map_map, Option.map_map]
  rfl
theorem putE_encT (F : List Pr) (p s : ByteArray) : putE (encT F) p (.string s) = encT (putF F p s) := by
  unfold putE encT putF
  have e : (F.map (fun q : Pr => (q.1, Value.string q.2))).any (fun q => decide (q.1 = p)) = F.any (fun q => decide (q.1 = p)) := by rw [List.any_map]; rfl
  rw [e]
  by_cases h : F.any (fun q => decide (q.1 = p)) = true
  · rw [if_pos h, if_pos h, List.map_map, List.map_map]
    refine List.map_congr_left fun q _ => ?_
    simp only [Function.comp]
    by_cases e : q.1 = p
    · simp [e]
    · simp [e]
  · rw [if_neg h, if_neg h, List.map_append]
    rfl
theorem delE_encT (F : List Pr) (p : ByteArray) : delE (encT F) p = encT (delF F p) := by
  unfold delE encT delF
  rw [List.filter_map]
  rfl
theorem encT_fst (F : List Pr) : (encT F).map Prod.fst = F.map Prod.fst := by
  unfold encT
  rw [List.map_map]
  rfl
theorem TreeAt.nodup {w : World} {B t b n : Nat} {F : List Pr} (h : TreeAt w B t b n F) : (F.map Prod.fst).Nodup := by
  have := h.mo.nodup
  rwa [encT_fst] at this

theorem TreeAt.put {w w' : World} {B t b n : Nat} {F : List Pr} {p s : ByteArray} (h : TreeAt w B t b n F) (q : Nat) (hm : MapAt w' b (putE (encT F) p (.string s))) (hg : (w.drewN q).grownBy w' (some b)) : TreeAt w' B t b n (putF F p s) ∧ Moved t b w w' := by
  have hne := h.ne
  have hlt := h.lt
  obtain ⟨cs, h1, h2⟩ := h.blk
  rw [putE_encT] at hm
  refine ⟨⟨⟨cs, (hg.block t hlt.1 (fun e => by injection e with e; exact hne e)).trans h1, h2⟩, hm, h.bt, h.bb⟩, (Moved.of_below (pw_below_drewN (Below.refl _ _) q)).trans (Moved.of_grown hg (.inr rfl))⟩
theorem TreeAt.del {w w' : World} {B t b n : Nat} {F : List Pr} {p : ByteArray} (h : TreeAt w B t b n F) (q : Nat) (hm : MapAt w' b (delE (encT F) p)) (hg : (w.drewN q).grownBy w' (some b)) : TreeAt w' B t b n (delF F p) ∧ Moved t b w w' := by
  have hne := h.ne
  have hlt := h.lt
  obtain ⟨cs, h1, h2⟩ := h.blk
  rw [delE_encT] at hm
  refine ⟨⟨⟨cs, (hg.block t hlt.1 (fun e => by injection e with e; exact hne e)).trans h1, h2⟩, hm, h.bt, h.bb⟩, (Moved.of_below (pw_below_drewN (Below.refl _ _) q)).trans (Moved.of_grown hg (.inr rfl))⟩
theorem toL {a b : ByteArray} : a.toList = b.toList ↔ a = b := by
  rw [ByteArray.toList_eq, ByteArray.toList_eq]
  exact ⟨fun h => bs_inj h, fun h => by rw [h]⟩

/-- What Write does. -/
inductive WriteIs (p s : ByteArray) (n : Nat) (F : List Pr) : Int → Nat → List Pr → Prop
  | arg (h : isP p = false) : WriteIs p s n F 2 n F
  | long (h : isP p = true) (hl : 4096 < s.size) : WriteIs p s n F 3 n F
  | same (h : isP p = true) (hl : s.size ≤ 4096) (hg : getF F p = some s) : WriteIs p s n F 0 n F
  | full (h : isP p = true) (hl : s.size ≤ 4096) (hg : getF F p = none) (hf : F.length = 256) : WriteIs p s n F 8 n F
  | new (h : isP p = true) (hl : s.size ≤ 4096) (hg : getF F p = none) (hf : F.length ≠ 256) : WriteIs p s n F 0 (n + 1) (putF F p s)
  | other (u : ByteArray) (h : isP p = true) (hl : s.size ≤ 4096) (hg : getF F p = some u) (hu : u ≠ s) : WriteIs p s n F 0 (n + 1) (putF F p s)
theorem isP_size {p : ByteArray} (h : isP p = true) : p.size ≤ 60 := by
  unfold isP at h
  by_cases hs : p.size ≤ 60
  · exact hs
  · rw [if_neg hs] at h; cases h
/-- What a call on the tree leaves. -/
def Wrote (w : World) (B t b : Nat) (R : Int → Nat → List Pr → Prop) (e : Ending) (w' : World) : Prop := ∃ (c : Int) (n' : Nat) (F' : List Pr), e = .returned (.int .i64 c) ∧ R c n' F' ∧ TreeAt w' B t b n' F' ∧ Moved t b w w'
set_option maxRecDepth 100000 in
set_option maxHeartbeats 4000000 in
theorem write_any {w : World} {B t b n : Nat} {F : List Pr} (h : TreeAt w B t b n F) (hn : n ≤ 1000000) (hF : F.length ≤ 1000000) (p s : ByteArray) :
    Calls Try.prog 8 #[.pointer (some ⟨t, 0, none⟩), .string p, .string s] w (Wrote w B t b (WriteIs p s n F)) := by
  have HI := Lib.hid (is_any p w)
  have X := Lib.hid h
  have fin : ∀ (W : World) (c : Int) (q : Nat), W = w.drewN q → WriteIs p s n F c n F → Wrote w B t b (WriteIs p s n F) (.returned (.int .i64 c)) W := by
    rintro W c q rfl hw
    exact ⟨c, n, F, rfl, hw, X.out.below (pw_below_drewN (Below.refl _ _) q), Moved.of_below (pw_below_drewN (Below.refl _ _) q)⟩
  have FIN := Lib.hid fin
  obtain ⟨ib, hib⟩ : ∃ ib, ib = isP p := ⟨_, rfl⟩
  rw [← hib] at HI
  have PB : Hid (isP p = ib) := hib.symm
  have hc33 : ∀ q, (w.drewN q).cell? ⟨t, 33, none⟩ = some (.map (some b)) := fun q => h.c33
  have q45 := fun (w : World) (r : Option Nat) => Go.run_eql_map_nil (P := Try.prog) w 45 9 9 r Try.underlying45
  have hlenr : ∀ q, (Builtin.len_ #[45] 3 #[.map (some b)]).run Try.prog (w.drewN q) = .ok (.int .i64 F.length) (w.drewN q) := fun q => by
    have := (X.out.below (pw_below_drewN (Below.refl _ _) q)).mo.len (P := Try.prog) (t := 45) Try.underlying45 3
    rw [show (encT F).length = F.length from by unfold encT; rw [List.length_map]] at this
    exact this
  clear h hib fin
  cases ib with
  | false =>
    go_enter Try.func8, Try.ntmps8
    go_wp2_with fail
    refine HI.out.mono ?_
    rintro e w1 ⟨rfl, q, rfl⟩
    go_wp2_with fail
    go_ret
    exact FIN.out _ _ q rfl (.arg PB.out)
  | true =>
    by_cases hl : s.size ≤ 4096
    · have hld : decide ((4096 : Int) < (s.size : Int)) = false := decide_eq_false (by omega)
      have hln : ¬ ((4096 : Int) < (s.size : Int)) := by omega
      cases hg : getF F p with
      | none =>
        have HG := Lib.hid hg
        clear hg
        by_cases hf : F.length = 256
        · have hfb : ((F.length : Int) == 256) = true := by rw [hf]; rfl
          have HFl := Lib.hid hf
          clear hf
          go_enter Try.func8, Try.ntmps8
          go_wp2_with fail
          refine HI.out.mono ?_
          rintro e w1 ⟨rfl, q, rfl⟩
          have hc := hc33 q
          have hlr := hlenr q
          clear hc33 hlenr
          go_wp2_with (at_lookup; refine wpList_lookAtOk _ rfl (.tmp 24) (.tmp 25) 45 rfl 9 9 Try.underlying45 Try.underlying9 (.string ⟨#[]⟩) zero9 b (encT F) (X.out.below (pw_below_drewN (Below.refl _ _) q)).mo rfl p rfl (.string ⟨#[]⟩) false (by rw [getE_encT, HG.out]; rfl) (by rw [getE_encT, HG.out]; rfl) ?_)
          go_ret
          exact FIN.out _ _ q rfl (.full PB.out hl HG.out HFl.out)
        · have hfb : ((F.length : Int) == 256) = false := by
            rw [beq_eq_false_iff_ne]
            omega
          have HFl := Lib.hid hf
          clear hf
          go_enter Try.func8, Try.ntmps8
          go_wp2_with fail
          refine HI.out.mono ?_
          rintro e w1 ⟨rfl, q, rfl⟩
          have hc := hc33 q
          have hlr := hlenr q
          have hk : p.size ≤ maxLen := by have := isP_size PB.out; unfold maxLen; omega
          clear hc33 hlenr
          go_wp2_with (first | (at_lookup; refine wpList_lookAtOk _ rfl (.tmp 24) (.tmp 25) 45 rfl 9 9 Try.underlying45 Try.underlying9 (.string ⟨#[]⟩) zero9 b (encT F) (X.out.below (pw_below_drewN (Below.refl _ _) q)).mo rfl p rfl (.string ⟨#[]⟩) false (by rw [getE_encT, HG.out]; rfl) (by rw [getE_encT, HG.out]; rfl) ?_) | (at_mapUpdate; refine wpList_putAt _ rfl (.tmp 59) (.tmp 60) (.tmp 61) 45 rfl 9 9 Try.underlying45 Try.underlying9 b (encT F) (X.out.below (pw_below_drewN (Below.refl _ _) q)).mo rfl p rfl hk (.string s) rfl ?_))
          intro w2 h2 g2 z2
          have HT := Lib.hid (X.out.put q h2 g2)
          have HN := Lib.hid (note_any HT.out.1 hn p)
          clear h2 g2 z2 hc hlr
          go_wp2_with fail
          refine HN.out.mono ?_
          rintro e w3 ⟨rfl, hT, hM⟩
          have Z := Lib.hid (And.intro hT (HT.out.2.trans hM))
          clear hT hM HN HT
          go_wp2_with fail
          go_ret
          exact ⟨0, n + 1, putF F p s, rfl, .new PB.out hl HG.out HFl.out, Z.out.1, Z.out.2⟩
      | some u =>
        have HG := Lib.hid hg
        clear hg
        by_cases hu : u = s
        · subst hu
          have hub : (u.toList == u.toList) = true := beq_self_eq_true _
          go_enter Try.func8, Try.ntmps8
          go_wp2_with fail
          refine HI.out.mono ?_
          rintro e w1 ⟨rfl, q, rfl⟩
          have hc := hc33 q
          clear hc33 hlenr
          go_wp2_with (at_lookup; refine wpList_lookAtOk _ rfl (.tmp 24) (.tmp 25) 45 rfl 9 9 Try.underlying45 Try.underlying9 (.string ⟨#[]⟩) zero9 b (encT F) (X.out.below (pw_below_drewN (Below.refl _ _) q)).mo rfl p rfl (.string u) true (by rw [getE_encT, HG.out]; rfl) (by rw [getE_encT, HG.out]; rfl) ?_)
          go_ret
          exact FIN.out _ _ q rfl (.same PB.out hl HG.out)
        · have hub : (u.toList == s.toList) = false := by
            rw [beq_eq_false_iff_ne]
            exact fun e => hu (toL.1 e)
          have HU := Lib.hid hu
          clear hu
          go_enter Try.func8, Try.ntmps8
          go_wp2_with fail
          refine HI.out.mono ?_
          rintro e w1 ⟨rfl, q, rfl⟩
          have hc := hc33 q
          have hlr := hlenr q
          have hk : p.size ≤ maxLen := by have := isP_size PB.out; unfold maxLen; omega
          clear hc33 hlenr
          go_wp2_with (first | (at_lookup; refine wpList_lookAtOk _ rfl (.tmp 24) (.tmp 25) 45 rfl 9 9 Try.underlying45 Try.underlying9 (.string ⟨#[]⟩) zero9 b (encT F) (X.out.below (pw_below_drewN (Below.refl _ _) q)).mo rfl p rfl (.string u) true (by rw [getE_encT, HG.out]; rfl) (by rw [getE_encT, HG.out]; rfl) ?_) | (at_mapUpdate; refine wpList_putAt _ rfl (.tmp 59) (.tmp 60) (.tmp 61) 45 rfl 9 9 Try.underlying45 Try.underlying9 b (encT F) (X.out.below (pw_below_drewN (Below.refl _ _) q)).mo rfl p rfl hk (.string s) rfl ?_))
          intro w2 h2 g2 z2
          have HT := Lib.hid (X.out.put q h2 g2)
          have HN := Lib.hid (note_any HT.out.1 hn p)
          clear h2 g2 z2 hc hlr
          go_wp2_with fail
          refine HN.out.mono ?_
          rintro e w3 ⟨rfl, hT, hM⟩
          have Z := Lib.hid (And.intro hT (HT.out.2.trans hM))
          clear hT hM HN HT
          go_wp2_with fail
          go_ret
          exact ⟨0, n + 1, putF F p s, rfl, .other u PB.out hl HG.out HU.out, Z.out.1, Z.out.2⟩
    · have hld : decide ((4096 : Int) < (s.size : Int)) = true := decide_eq_true (by omega)
      have hln : ((4096 : Int) < (s.size : Int)) := by omega
      go_enter Try.func8, Try.ntmps8
      go_wp2_with fail
      refine HI.out.mono ?_
      rintro e w1 ⟨rfl, q, rfl⟩
      go_wp2_with fail
      go_ret
      exact FIN.out _ _ q rfl (.long PB.out (by omega))
end Go.Proofs.Ytpmeefdegcllkaa
