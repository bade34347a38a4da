/- The program's tree: Read, Remove, Len, Mark, List. -/
import Derived.Test.YtpmeefdegcllkaaTTree
namespace Go.Proofs.Ytpmeefdegcllkaa
set_option linter.unusedVariables false
set_option linter.unusedSimpArgs false
open Go.RowKit Go.Maps Go.Proofs.YtpmeefdegcllkaaW.PrintWords Go.Proofs.YtpmeefdegcllkaaW.PrintLast

/-- What Read answers. -/
noncomputable def rdF (F : List Pr) (p : ByteArray) : ByteArray × Int := if isP p = true then (match getF F p with | none => (⟨#[]⟩, 4) | some s => (s, 0)) else (⟨#[]⟩, 2)
set_option maxRecDepth 100000 in
set_option maxHeartbeats 4000000 in
theorem read_any {w : World} {B t b n : Nat} {F : List Pr} (h : TreeAt w B t b n F) (p : ByteArray) :
    Calls Try.prog 17 #[.pointer (some ⟨t, 0, none⟩), .string p] w fun e w' => e = .returned (.tuple #[.string (rdF F p).1, .int .i64 (rdF F p).2]) ∧ ∃ q, w' = w.drewN q := by
  have HI := Lib.hid (is_any p w)
  have X := Lib.hid h
  obtain ⟨ib, hib⟩ : ∃ ib, ib = isP p := ⟨_, rfl⟩
  rw [← hib] at HI
  have PB : Hid (isP p = ib) := hib.symm
  have hc33 : ∀ q, (w.drewN q).cell? ⟨t, 33, none⟩ = some (.map (some b)) := fun q => h.c33
  clear h hib
  cases ib with
  | false =>
    have HR : Hid (rdF F p = (⟨#[]⟩, 2)) := by show rdF F p = _; unfold rdF; rw [if_neg (by rw [PB.out]; simp)]
    go_enter Try.func17, Try.ntmps17
    go_wp2_with fail
    refine HI.out.mono ?_
    rintro e w1 ⟨rfl, q, rfl⟩
    go_wp2_with fail
    go_ret2
    exact ⟨by rw [HR.out]; rfl, q, rfl⟩
  | true =>
    cases hg : getF F p with
    | none =>
      have HG := Lib.hid hg
      have HR : Hid (rdF F p = (⟨#[]⟩, 4)) := by show rdF F p = _; unfold rdF; rw [if_pos PB.out, hg]
      clear hg
      go_enter Try.func17, Try.ntmps17
      go_wp2_with fail
      refine HI.out.mono ?_
      rintro e w1 ⟨rfl, q, rfl⟩
      have hc := hc33 q
      clear hc33
      go_wp2_with (at_lookup; refine wpList_lookAtOk _ rfl (.tmp 19) (.tmp 20) 45 rfl 9 9 Try.underlying45 Try.underlying9 (.string ⟨#[]⟩) zero9 b (encT F) (X.out.below (pw_below_drewN (Below.refl _ _) q)).mo rfl p rfl (.string ⟨#[]⟩) false (by rw [getE_encT, HG.out]; rfl) (by rw [getE_encT, HG.out]; rfl) ?_)
      go_ret2
      exact ⟨by rw [HR.out]; rfl, q, rfl⟩
    | some u =>
      have HG := Lib.hid hg
      have HR : Hid (rdF F p = (u, 0)) := by show rdF F p = _; unfold rdF; rw [if_pos PB.out, hg]
      clear hg
      go_enter Try.func17, Try.ntmps17
      go_wp2_with fail
      refine HI.out.mono ?_
      rintro e w1 ⟨rfl, q, rfl⟩
      have hc := hc33 q
      clear hc33
      go_wp2_with (at_lookup; refine wpList_lookAtOk _ rfl (.tmp 19) (.tmp 20) 45 rfl 9 9 Try.underlying45 Try.underlying9 (.string ⟨#[]⟩) zero9 b (encT F) (X.out.below (pw_below_drewN (Below.refl _ _) q)).mo rfl p rfl (.string u) true (by rw [getE_encT, HG.out]; rfl) (by rw [getE_encT, HG.out]; rfl) ?_)
      go_ret2
      exact ⟨by rw [HR.out]; rfl, q, rfl⟩

/-- What Remove does. -/
inductive RemIs (p : ByteArray) (n : Nat) (F : List Pr) : Int → Nat → List Pr → Prop
  | no (h : (rdF F p).2 ≠ 0) : RemIs p n F (rdF F p).2 n F
  | yes (h : (rdF F p).2 = 0) : RemIs p n F 0 (n + 1) (delF F p)
theorem rdF_code (F : List Pr) (p : ByteArray) : (rdF F p).2 = 0 ∨ (rdF F p).2 = 2 ∨ (rdF F p).2 = 4 := by
  unfold rdF
  by_cases h : isP p = true
  · rw [if_pos h]
    cases getF F p with
    | none => exact .inr (.inr rfl)
    | some u => exact .inl rfl
  · rw [if_neg h]; exact .inr (.inl rfl)
set_option maxRecDepth 100000 in
set_option maxHeartbeats 4000000 in
theorem remove_any {w : World} {B t b n : Nat} {F : List Pr} (h : TreeAt w B t b n F) (hn : n ≤ 1000000) (p : ByteArray) :
    Calls Try.prog 12 #[.pointer (some ⟨t, 0, none⟩), .string p] w (Wrote w B t b (RemIs p n F)) := by
  have HR := Lib.hid (read_any h p)
  have X := Lib.hid h
  have hc33 : ∀ q, (w.drewN q).cell? ⟨t, 33, none⟩ = some (.map (some b)) := fun q => h.c33
  obtain ⟨c, hc⟩ : ∃ c, c = (rdF F p).2 := ⟨_, rfl⟩
  obtain ⟨s0, hs0⟩ : ∃ s, s = (rdF F p).1 := ⟨_, rfl⟩
  rw [← hc, ← hs0] at HR
  have HC := Lib.hid hc
  clear h hc hs0
  by_cases h0 : c = 0
  · subst h0
    go_enter Try.func12, Try.ntmps12
    go_wp2_with fail
    refine HR.out.mono ?_
    rintro e w1 ⟨rfl, q, rfl⟩
    have hc := hc33 q
    have hXq : TreeAt (w.drewN q) B t b n F := X.out.below (pw_below_drewN (Below.refl _ _) q)
    obtain ⟨w2, hdel, h2, g2, z2⟩ := hXq.mo.delete (P := Try.prog) (t := 45) Try.underlying45 Try.underlying9 p 0
    have HT := Lib.hid (X.out.del q h2 g2)
    have HN := Lib.hid (note_any HT.out.1 hn p)
    clear hXq h2 g2 z2 hc33
    go_wp2_with fail
    refine HN.out.mono ?_
    rintro e w3 ⟨rfl, hT, hM⟩
    have Z := Lib.hid (And.intro hT (HT.out.2.trans hM))
    clear hT hM HN HT hdel hc
    go_wp2_with fail
    go_ret
    exact ⟨0, n + 1, delF F p, rfl, .yes HC.out.symm, Z.out.1, Z.out.2⟩
  · have hcb : (c != 0) = true := by rw [bne_iff_ne]; exact h0
    have H0 := Lib.hid h0
    clear h0 hc33
    go_enter Try.func12, Try.ntmps12
    go_wp2_with fail
    refine HR.out.mono ?_
    rintro e w1 ⟨rfl, q, rfl⟩
    go_wp2_with fail
    go_ret
    refine ⟨c, n, F, rfl, ?_, X.out.below (pw_below_drewN (Below.refl _ _) q), Moved.of_below (pw_below_drewN (Below.refl _ _) q)⟩
    have := RemIs.no (p := p) (n := n) (F := F) (by rw [← HC.out]; exact H0.out)
    rw [← HC.out] at this
    exact this

set_option maxRecDepth 100000 in
theorem len_any {w : World} {B t b n : Nat} {F : List Pr} (h : TreeAt w B t b n F) :
    Calls Try.prog 11 #[.pointer (some ⟨t, 0, none⟩)] w fun e w' => e = .returned (.int .i64 F.length) ∧ w' = w := by
  have hc := h.c33
  have hlr : (Builtin.len_ #[45] 3 #[.map (some b)]).run Try.prog w = .ok (.int .i64 F.length) w := by
    have := h.mo.len (P := Try.prog) (t := 45) Try.underlying45 3
    rw [show (encT F).length = F.length from by unfold encT; rw [List.length_map]] at this
    exact this
  clear h
  go_enter Try.func11, Try.ntmps11
  go_wp2_with fail
  go_ret
  exact ⟨rfl, rfl⟩
set_option maxRecDepth 100000 in
theorem mark_any {w : World} {B t b n : Nat} {F : List Pr} (h : TreeAt w B t b n F) :
    Calls Try.prog 15 #[.pointer (some ⟨t, 0, none⟩)] w fun e w' => e = .returned (.int .i64 n) ∧ w' = w := by
  have hc := h.c32
  clear h
  go_enter Try.func15, Try.ntmps15
  go_wp2_with fail
  go_ret
  exact ⟨rfl, rfl⟩

/-! ### List -/
def pre (s p : ByteArray) : Bool := Lib.hasPrefix s.data.toList p.data.toList
/-- An iterator over texts. -/
structure SeqAt (w : World) (B : Nat) (Bs : Nat) (r : List ByteArray) : Prop where
  box : ∃ A c, w.heap[Bs]? = some (.cells #[.slice A r.length c] 31 (0, 0)) ∧ OwnS w B A c r
  le : B ≤ Bs
theorem SeqAt.below {w w' : World} {B Bs : Nat} {r : List ByteArray} (h : SeqAt w B Bs r) (hb : Below w.heap.size w w') : SeqAt w' B Bs r := by
  obtain ⟨⟨A, c, h1, h2⟩, h3⟩ := h
  exact ⟨⟨A, c, (hb.block _ (Array.getElem?_eq_some_iff.1 h1).1).trans h1, OwnS.below h2 hb⟩, h3⟩
theorem SeqAt.moved {w w' : World} {B Bs t b : Nat} {r : List ByteArray} (h : SeqAt w B Bs r) (hm : Moved t b w w') (h1 : t < B) (h2 : b < B) : SeqAt w' B Bs r := by
  obtain ⟨⟨A, c, g1, g2⟩, g3⟩ := h
  refine ⟨⟨A, c, (hm.block _ (Array.getElem?_eq_some_iff.1 g1).1 (by omega) (by omega)).trans g1, ?_⟩, g3⟩
  exact own_move g2 (fun k hk => by
    have := OwnS.lt g2 hk
    exact hm.block k this.2 (by omega) (by omega))
theorem length_delE_lt {l : Ents} {k : ByteArray} {v : Value} (h : (k, v) ∈ l) : (delE l k).length < l.length := by
  unfold delE
  exact List.length_filter_lt_length_iff_exists.2 ⟨_, h, by simp⟩
/-- While the files are gone over. -/
structure LI (w wr : World) (b r : Nat) (F : List Pr) (px : ByteArray) (A : Option Addr) (c : Nat) (out : List ByteArray) (left : Ents) : Prop where
  it : IterAt wr b r (encT F) left
  own : OwnS wr w.heap.size A c out
  bl : Below w.heap.size w wr
  nd : out.Nodup
  mem : ∀ x, x ∈ out ↔ x ∈ F.map Prod.fst ∧ x ∉ left.map Prod.fst ∧ pre x px = true
  rg : w.heap.size ≤ r
set_option maxRecDepth 100000 in
set_option maxHeartbeats 4000000 in
theorem list_any {w : World} {B t b n : Nat} {F : List Pr} (h : TreeAt w B t b n F) (hF : F.length ≤ 1000000) (px : ByteArray) :
    Calls Try.prog 10 #[.pointer (some ⟨t, 0, none⟩), .string px] w fun e w' => ∃ Bs r, e = .returned (.func (.func 28) #[] #[.pointer (some ⟨Bs, 0, none⟩)]) ∧ SeqAt w' w.heap.size Bs r ∧ Rise r ∧ (∀ x, x ∈ r ↔ x ∈ F.map Prod.fst ∧ pre x px = true) ∧ Below w.heap.size w w' := by
  have X := Lib.hid (And.intro h hF)
  have hc := h.c33
  clear h hF
  go_enter Try.func10, Try.ntmps10
  go_wp2_with (at_range; refine wpList_rangeAt _ rfl (.tmp 12) 45 rfl 9 9 Try.underlying45 b (encT F) X.out.1.mo rfl ?_)
  intro w3 hI g3 z3
  obtain ⟨r, hr⟩ : ∃ r, r = w.heap.size := ⟨_, rfl⟩
  rw [← hr] at hI ⊢
  have h0 : LI w w3 b r F px none 0 [] (encT F) :=
    ⟨hI, OwnS.nil _ _, ⟨g3.os, g3.tape, g3.output, g3.size, fun k hk => g3.block k hk (by simp)⟩, List.nodup_nil, fun x => by rw [encT_fst]; exact ⟨fun h => absurd h List.not_mem_nil, fun h => absurd h.1 h.2.1⟩, by omega⟩
  have H0 := Lib.hid h0
  clear h0 hI g3 z3 hc hr
  go_wp2_with fail
  go_loopg [5, 6] (F.length + 1) (fun q v5 v6 wr => ∃ (A : Option Addr) (c : Nat) (out : List ByteArray) (left : Ents), v5 = .slice A out.length c ∧ left.length < q ∧ Hid (LI w wr b r F px A c out left))
  case atStart => exact ⟨none, 0, [], encT F, rfl, by unfold encT; rw [List.length_map]; omega, H0⟩
  case round =>
    obtain ⟨A, c, out, left, rfl, hq, HI⟩ := hrel
    clear H0
    have hol : out.length ≤ 1000000 := by
      have := nodup_len HI.out.nd (N := F.map Prod.fst) (fun x hx => ((HI.out.mem x).1 hx).1)
      rw [List.length_map] at this
      have := X.out.2
      omega
    go_wp2_with (at_next; refine wpList_nextAt _ rfl (.tmp 13) rfl b r (encT F) left HI.out.it rfl ?_ ?_)
    · intro hl
      have HS := Lib.hid (Sort_own (w := wr) A c out HI.out.own hol HI.out.nd)
      have HL := Lib.hid hl
      have HB := Lib.hid HI.out.bl
      have HM := Lib.hid HI.out.mem
      clear hl HI
      go_wp2_with fail
      refine HS.out.mono ?_
      rintro e w4 ⟨rfl, s, hrs, hms, hls, hown, hb4⟩
      rw [← hls]
      have Z : Hid (OwnS w4 w.heap.size A c s ∧ Below w.heap.size w w4 ∧ Rise s ∧ ∀ x, x ∈ s ↔ x ∈ F.map Prod.fst ∧ pre x px = true) :=
        ⟨hown, HB.out.trans hb4, hrs, fun x => by rw [hms x, HM.out x, HL.out]; simp⟩
      clear hrs hms hls hown hb4 HS
      go_wp2_with go_in
      go_ret
      refine ⟨w4.heap.size, s, rfl, ⟨⟨A, c, (MapKept.heap_alloc w4 _).1, OwnS.alloc Z.out.1 _⟩, Z.out.2.1.size⟩, Z.out.2.2.1, Z.out.2.2.2, Z.out.2.1.alloc Z.out.2.1.size _⟩
    · intro x v W4 hx hI hg hz hen
      obtain ⟨m1, m2, m3, m4, m5, m6⟩ := HI.out
      have hxF : x ∈ F.map Prod.fst := by
        have := m1.sub hx
        rw [← encT_fst]
        exact List.mem_map.2 ⟨_, this, rfl⟩
      have n2 : OwnS W4 w.heap.size A c out := OwnS.step m2 m1 hg
      have n3 : Below w.heap.size w W4 := m3.grown hg m3.size (fun k e => by injection e with e; omega)
      have hleft := length_delE_lt hx
      have hxl : x ∈ left.map Prod.fst := List.mem_map.2 ⟨_, hx, rfl⟩
      have hxo : x ∉ out := fun hh => ((m5 x).1 hh).2.1 hxl
      have hdl : ∀ y, y ∉ (delE left x).map Prod.fst ↔ y ∉ left.map Prod.fst ∨ y = x := by
        intro y
        constructor
        · intro hh
          by_cases e : y = x
          · exact .inr e
          · refine .inl (fun h2 => hh ?_)
            obtain ⟨p, hp, rfl⟩ := List.mem_map.1 h2
            exact List.mem_map.2 ⟨p, mem_delE.2 ⟨hp, e⟩, rfl⟩
        · rintro hh h2
          obtain ⟨p, hp, rfl⟩ := List.mem_map.1 h2
          obtain ⟨h3, h4⟩ := mem_delE.1 hp
          rcases hh with hh | hh
          · exact hh (List.mem_map.2 ⟨p, h3, rfl⟩)
          · exact h4 hh
      obtain ⟨pb, hpb⟩ : ∃ pb, pb = pre x px := ⟨_, rfl⟩
      have HP : Hid (Calls Try.prog 19 #[.string x, .string px] W4 fun e w' => e = .returned (.bool pb) ∧ w' = W4) := by rw [hpb]; exact Try.strings_HasPrefix x px W4
      have Z := Lib.hid (And.intro hI (And.intro n2 (And.intro n3 (And.intro hxF (And.intro hxo (And.intro hdl (And.intro m4 (And.intro m5 (And.intro m6 (And.intro hpb hleft))))))))))
      clear m1 m2 m3 m4 m5 m6 n2 n3 hleft hxF hxl hxo hdl hpb hx hI hg hz HI
      go_wp2_with fail
      refine HP.out.mono ?_
      rintro e W5 ⟨rfl, hw⟩
      obtain rfl : W4 = W5 := hw.symm
      clear HP
      cases pb with
      | false =>
        go_wp2_with fail
        obtain ⟨hI, n2, n3, hxF, hxo, hdl, m4, m5, m6, hpb, hleft⟩ := Z.out
        go_roundg left.length
        case measure => omega
        case rel =>
          refine ⟨A, c, out, delE left x, rfl, hleft, hI, n2, n3, m4, fun y => ?_, m6⟩
          rw [m5 y, hdl y]
          constructor
          · rintro ⟨h1, h2, h3⟩; exact ⟨h1, .inl h2, h3⟩
          · rintro ⟨h1, h2 | h2, h3⟩
            · exact ⟨h1, h2, h3⟩
            · rw [h2, ← hpb] at h3; cases h3
      | true =>
        have hbs := Z.out.2.2.1.size
        go_wp2_with (at_builtin; refine wpList_pushS rfl (.tmp 21) (.tmp 23) rfl w.heap.size c A out Z.out.2.1 rfl x rfl (by omega) hbs ?_)
        intro A6 c6 W6 h6 g6
        have Z6 := Lib.hid (And.intro h6 g6)
        clear h6 g6
        go_wp2_with fail
        obtain ⟨hI, n2, n3, hxF, hxo, hdl, m4, m5, m6, hpb, hleft⟩ := Z.out
        obtain ⟨h6, g6⟩ := Z6.out
        go_roundg left.length
        case measure => omega
        case rel =>
          refine ⟨A6, c6, out ++ [x], delE left x, by rw [List.length_append]; rfl, hleft, hI.push n2 g6, h6, n3.grown g6 n3.size (fun k e => (OwnS.lt n2 e).1), ?_, fun y => ?_, m6⟩
          · rw [List.nodup_append]
            exact ⟨m4, by simp, fun a ha b hb => by rw [List.mem_singleton] at hb; rintro rfl; rw [hb] at ha; exact hxo ha⟩
          · rw [List.mem_append, List.mem_singleton, m5 y, hdl y]
            constructor
            · rintro (⟨h1, h2, h3⟩ | h1)
              · exact ⟨h1, .inl h2, h3⟩
              · rw [h1]; exact ⟨hxF, .inr rfl, hpb.symm⟩
            · rintro ⟨h1, h2 | h2, h3⟩
              · exact .inl ⟨h1, h2, h3⟩
              · exact .inr h2
end Go.Proofs.Ytpmeefdegcllkaa
