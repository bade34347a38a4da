/- Order: each name behind those that it asks. -/
import Derived.Test.YtlccejbomgknkaaGKahn
namespace Go.Proofs.Ytlccejbomgknkaa
set_option linter.unusedVariables false
set_option linter.unusedSimpArgs false
open Go.RowKit Go.Maps Go.Proofs.YtlccejbomgknkaaW.PrintWords Go.Proofs.YtlccejbomgknkaaW.PrintLast

/-- What Order hands back. -/
def Ordered (w : World) (N : List ByteArray) (E : Rel) (e : Ending) (w' : World) : Prop :=
  Below w.heap.size w w' ∧ ((∃ (A : Option Addr) (c : Nat) (out : List ByteArray), e = .returned (.tuple #[.slice A out.length c, .bool true]) ∧ Kahn N E out ∧ (∀ x ∈ N, x ∈ out) ∧ OwnS w' w.heap.size A c out) ∨
    (e = .returned (.tuple #[.slice none 0 0, .bool false]) ∧ ∃ out, Kahn N E out ∧ (∃ x ∈ N, x ∉ out) ∧ ∀ z ∈ N, z ∉ out → ∃ y, E z y ∧ y ∉ out))

/-- While the names are counted. -/
structure OA (w wr : World) (bo r : Nat) (N : List ByteArray) (E : Rel) (lo : List (ByteArray × Nat)) (L : List (ByteArray × Nat)) (left : Ents) : Prop where
  mp : MapAt wr w.heap.size (encF L)
  it : IterAt wr bo r (encM lo) left
  bl : Below w.heap.size w wr
  lf : LeftAt L N (left.map Prod.fst) (cntO N E [])

/-- Between two names. -/
structure OB (w wr : World) (N : List ByteArray) (E : Rel) (L : List (ByteArray × Nat)) (A : Option Addr) (c : Nat) (out : List ByteArray) : Prop where
  mp : MapAt wr w.heap.size (encF L)
  ow : OwnS wr w.heap.size A c out
  bl : Below w.heap.size w wr
  lf : LeftAt L N out (cntO N E out)
  kn : Kahn N E out

/-- While a name that is there is told to those that ask it. -/
structure OC (w wr : World) (b2 r : Nat) (s : List ByteArray) (left : Ents) (N : List ByteArray) (E : Rel) (L : List (ByteArray × Nat)) (A : Option Addr) (c : Nat) (out : List ByteArray) (nm : ByteArray) : Prop where
  mp : MapAt wr w.heap.size (encF L)
  it : IterAt wr b2 r (encS s) left
  ow : OwnS wr w.heap.size A c (out ++ [nm])
  bl : Below w.heap.size w wr
  lf : LeftAt L N (out ++ [nm]) (fMid N E out nm left)

set_option maxRecDepth 100000 in
set_option maxHeartbeats 8000000 in
theorem Order_any {w : World} {B g : Nat} {N : List ByteArray} {E : Rel} (hG : GraphAt w B g N E) (hN : N.length ≤ 1000000) :
    Calls Try.prog 30 #[.pointer (some ⟨g, 0, none⟩)] w (Ordered w N E) := by
  have hmm := @run_makeMap Try.prog
  obtain ⟨bo, bi, lo, li, hGr⟩ := hG
  have X := Lib.hid (And.intro hGr hN)
  have hm1 : Hid (MapAt (w.alloc (.map #[] 0)) w.heap.size (encF []) ∧ MapAt (w.alloc (.map #[] 0)) bo (encM lo)) := ⟨MapAt.made w, hGr.mo.alloc _⟩
  have hc0 : (w.alloc (.map #[] 0)).cell? ⟨g, 0, none⟩ = some (.map (some bo)) := block_of_cell (Below.heap_alloc w _ g (Array.getElem?_eq_some_iff.1 hGr.cells).1) hGr.cell0
  clear hGr hN
  go_enter Try.func30, Try.ntmps30
  go_wp2_with fail
  go_step3
  go_wp2_with (at_range; refine wpList_rangeAt _ rfl (.tmp 17) 65 rfl 9 70 Try.underlying65 bo (encM lo) hm1.out.2 rfl ?_)
  intro w3 hI g3 z3
  obtain ⟨r, hr⟩ : ∃ r, r = w.heap.size + 1 := ⟨_, rfl⟩
  rw [← hr] at hI ⊢
  have h0 : OA w w3 bo r N E lo [] (encM lo) := by
    obtain ⟨m1, m2⟩ := hm1.out
    obtain ⟨hGr, hN⟩ := X.out
    have hb3 : Below (w.alloc (.map #[] 0)).heap.size (w.alloc (.map #[] 0)) w3 := ⟨g3.os, g3.tape, g3.output, g3.size, fun k hk => g3.block k hk (by simp)⟩
    refine ⟨m1.below hb3 m1.lt, hI, ((Below.refl w.heap.size w).alloc (Nat.le_refl _) _).trans (hb3.mono (by simp)), ⟨fun x => ?_, fun x c h => absurd h List.not_mem_nil⟩⟩
    rw [fst_encM, hGr.no]
    exact ⟨fun ⟨c, h⟩ => absurd h List.not_mem_nil, fun h => absurd h.1 h.2⟩
  have H0 := Lib.hid h0
  have hrw : w.heap.size ≤ r := by omega
  clear h0 hI g3 z3 hm1 hc0 hr
  go_wp2_with fail
  go_loopg [] (N.length + 1) (fun q wr => ∃ (L : List (ByteArray × Nat)) (left : Ents), left.length < q ∧ Hid (OA w wr bo r N E lo L left))
  case atStart => exact ⟨[], encM lo, by have := X.out.1.no; have := congrArg List.length this; simp [encM] at this ⊢; omega, H0⟩
  case round =>
    obtain ⟨L, left, hq, HI⟩ := hrel
    clear H0
    go_wp2_with (at_next; refine wpList_nextAt _ rfl (.tmp 18) rfl bo r (encM lo) left HI.out.it rfl ?_ ?_)
    · intro hl
      have h1 : OB w wr N E L none 0 [] := by
        obtain ⟨m1, m2, m3, m4⟩ := HI.out
        subst hl
        exact ⟨m1, OwnS.nil _ _, m3, m4, .nil⟩
      have H1 := Lib.hid h1
      clear h1 hl HI
      go_wp2_with fail
      go_step3
      go_wp2_with fail
      go_loopg [7] (N.length + 1) (fun q v7 wr => ∃ (L : List (ByteArray × Nat)) (A : Option Addr) (c : Nat) (out : List ByteArray), v7 = .slice A out.length c ∧ q + out.length = N.length + 1 ∧ Hid (OB w wr N E L A c out))
      case atStart => exact ⟨L, none, 0, [], rfl, by simp, H1⟩
      case round =>
        obtain ⟨L, A, c, out, rfl, hq, HB⟩ := hrel
        clear H1
        have hol : out.length ≤ N.length := nodup_len HB.out.kn.nodup.1 HB.out.kn.nodup.2
        have hLN : L.length ≤ N.length := HB.out.lf.size HB.out.mp.keysF_nodup
        have hN : N.length ≤ 1000000 := X.out.2
        have hlen := HB.out.mp.len (P := Try.prog) (t := 60) Try.underlying60 3
        rw [show (encF L).length = L.length from by simp [encF]] at hlen
        by_cases hz : L.length = 0
        · have HZ := Lib.hid hz
          go_wp2_with fail
          rw [Exit.noGoto_ret]
          go_ret2
          obtain ⟨m1, m2, m3, m4, m5⟩ := HB.out
          have hL0 : L = [] := List.eq_nil_of_length_eq_zero HZ.out
          subst hL0
          refine ⟨m3, .inl ⟨A, c, out, rfl, m5, fun x hx => ?_, m2⟩⟩
          exact Classical.byContradiction fun hn => by
            obtain ⟨c, hc⟩ := (m4.keys x).2 ⟨hx, hn⟩
            exact absurd hc List.not_mem_nil
        · have HZ := Lib.hid hz
          have HS := Lib.hid (sorted47 HB.out.mp (by simp [encF]; omega))
          obtain ⟨W1, rfl⟩ : ∃ W1 : World, W1 = wr := ⟨_, rfl⟩
          obtain ⟨q0, rfl⟩ : ∃ q0 : Nat, q0 = gk := ⟨_, rfl⟩
          go_wp2_with fail
          refine HS.out.mono ?_
          rintro e W2 ⟨v, rr, rfl, hrise, hmem, hR, hb2⟩
          obtain ⟨Ar, cr, rfl⟩ := Kd.R_slice hR
          have hrl : rr.length ≤ 1000000 := by
            have := nodup_len (s := rr) (N := N) (rise_nodup hrise) (fun z hz => by
              have h1 := (hmem z).1 hz
              rw [fst_encF] at h1
              obtain ⟨p, hp, rfl⟩ := List.mem_map.1 h1
              exact ((HB.out.lf.keys p.1).1 ⟨p.2, hp⟩).1)
            omega
          have hm' : ∀ z, z ∈ rr ↔ z ∈ N ∧ z ∉ out := by
            intro z
            rw [hmem z, fst_encF, ← HB.out.lf.keys z]
            constructor
            · intro h1
              obtain ⟨p, hp, rfl⟩ := List.mem_map.1 h1
              exact ⟨p.2, hp⟩
            · rintro ⟨c, hc⟩
              exact List.mem_map.2 ⟨(z, c), hc, rfl⟩
          have h0 : OB w W2 N E L A c out := by
            obtain ⟨m1, m2, m3, m4, m5⟩ := HB.out
            exact ⟨m1.below hb2 m1.lt, OwnS.below m2 hb2, m3.trans (hb2.mono m3.size), m4, m5⟩
          have HB2 := Lib.hid h0
          have Z := Lib.hid (And.intro hrise (And.intro hm' (Kd.R_reads' hR).2.2))
          clear HS HB h0 hrise hmem hR hb2 hm'
          have HK := Lib.hid (show ∀ (j : Nat) (z : ByteArray), j < 0 → rr[j]? = some z → cntO N E out z ≠ 0 from fun j z h => absurd h (by omega))
          go_wp2_with fail
          go_loopg [7, 34] (rr.length + 1) (fun q2 v7 v34 wr => wr = W2 ∧ v7 = .slice A out.length c ∧ ∃ k : Nat, v34 = .int .i64 k ∧ k ≤ rr.length ∧ q2 + k = rr.length + 1 ∧ Hid (∀ (j : Nat) (z : ByteArray), j < k → rr[j]? = some z → cntO N E out z ≠ 0))
          case atStart => exact ⟨rfl, rfl, 0, rfl, by omega, by omega, HK⟩
          case round =>
            obtain ⟨rfl, rfl, k, rfl, hk, hq2, HH⟩ := hrel
            clear HK
            by_cases hlt : k < rr.length
            · obtain ⟨ad, hA, hcell⟩ := Kd.at_string Z.out.2.2 (k : Int) (by omega) (by omega)
              subst hA
              obtain ⟨nm, hnm⟩ : ∃ nm, nm = rdOf ByteArray.empty rr (k : Int) := ⟨_, rfl⟩
              rw [← hnm] at hcell
              simp only [Int.toNat_natCast] at hcell
              have hrk : rr[k]? = some nm := by
                rw [hnm]
                unfold rdOf
                rw [Int.toNat_natCast, List.getD_eq_getElem?_getD, List.getElem?_eq_getElem hlt]
                rfl
              have hin := (Z.out.2.1 nm).1 (List.mem_of_getElem? hrk)
              have hget := getE_encF_yes HB2.out.mp.keysF_nodup (HB2.out.lf.mem hin.1 hin.2)
              have HN := Lib.hid (And.intro hrk (And.intro hin hget))
              clear hnm hrk hin hget
              obtain ⟨cn, hcn⟩ : ∃ cn, cn = cntO N E out nm := ⟨_, rfl⟩
              have hcl : cn ≤ N.length := by rw [hcn]; exact cnt_le
              rw [← hcn] at HN
              have HCN := Lib.hid hcn
              clear hcn
              by_cases hc0 : cn = 0
              · have HC0 := Lib.hid hc0
                go_wp2_with (first | (at_lookup; refine wpList_lookAt _ rfl (.tmp 38) (.tmp 39) 60 rfl 9 3 Try.underlying60 Try.underlying9 (.int .i64 0) zero3 w.heap.size (encF L) HB2.out.mp rfl nm rfl (.int .i64 (cn : Nat)) (by rw [HN.out.2.2]; rfl) ?_) | (at_builtin; refine wpList_pushS rfl (.tmp 42) (.tmp 44) rfl w.heap.size c A out HB2.out.ow rfl nm rfl (by omega) HB2.out.bl.size ?_))
                intro A6 c6 W6 h6 g6
                have hall : ∀ y, E nm y → y ∈ out := (cnt_zero X.out.1.inN).1 (by rw [← HCN.out]; exact HC0.out)
                obtain ⟨m1, m2, m3, m4, m5⟩ := HB2.out
                obtain ⟨hrk, hin, hget⟩ := HN.out
                have n1 := m1.push m2 g6
                have n3 : Below w.heap.size w W6 := m3.grown g6 m3.size (fun j e => (OwnS.lt m2 e).1)
                obtain ⟨W7, hdel, n1', g7, z7⟩ := n1.delete (P := Try.prog) (t := 60) Try.underlying60 Try.underlying9 nm 0
                have n6 : OwnS W7 w.heap.size A6 c6 (out ++ [nm]) := OwnS.grown h6 n1 g7
                have n7 : Below w.heap.size w W7 := n3.grown g7 n3.size (fun j e => by injection e with e; omega)
                rw [delE_encF] at n1'
                have hkn : Kahn N E (out ++ [nm]) := m5.snoc hin.1 hin.2 hall (fun z hz ho hza => by
                  obtain ⟨j, hj⟩ := List.getElem?_of_mem ((Z.out.2.1 z).2 ⟨hz, ho⟩)
                  have hz0 : cntO N E out z = 0 := (cnt_zero X.out.1.inN).2 hza
                  rcases Nat.lt_trichotomy j k with h1 | h1 | h1
                  · exact absurd hz0 (HH.out j z h1 hj)
                  · subst h1
                    rw [hrk] at hj
                    injection hj with hj
                    exact .inl hj.symm
                  · have hjl := (List.getElem?_eq_some_iff.1 hj).1
                    have h2 := (List.pairwise_iff_getElem.1 Z.out.1) k j hlt hjl h1
                    rw [List.getElem?_eq_getElem hjl] at hj
                    rw [List.getElem?_eq_getElem hlt] at hrk
                    injection hj with hj
                    injection hrk with hrk
                    rw [hj, hrk] at h2
                    exact .inr h2)
                obtain ⟨hGr, hN⟩ := X.out
                have hcc : W7.cell? ⟨g, 1, none⟩ = some (.map (some bi)) := block_of_cell (n7.block g (Array.getElem?_eq_some_iff.1 hGr.cells).1) hGr.cell1
                obtain ⟨b2, hb2, hgi, s, hs, hsE⟩ := hGr.inOf hin.1
                have hs' := hs.below n7 hs.lt
                have hmi := hGr.mi.below n7 hGr.mi.lt
                have hb2l := hs.lt
                have hnn : ¬ E nm nm := fun h => hin.2 (hall nm h)
                have Y := Lib.hid (And.intro hgi (And.intro hmi (And.intro hs' (And.intro hsE (And.intro n1' (And.intro n6 (And.intro n7 (And.intro hkn (And.intro hnn hb2l)))))))))
                clear h6 g6 hall m1 m2 m3 m4 m5 hrk hin hget n1 n3 n1' g7 z7 n6 n7 hkn hb2 hgi hs hsE hs' hmi hb2l hnn hGr
                go_wp2_with (first | (at_lookup; refine wpList_lookAt _ rfl (.tmp 51) (.tmp 52) 65 rfl 9 70 Try.underlying65 Try.underlying9 (.map none) zero70 bi (encM li) Y.out.2.1 rfl nm rfl (.map (some b2)) (by rw [Y.out.1]; rfl) ?_) | (at_range; refine wpList_rangeAt _ rfl (.tmp 53) 70 rfl 9 4 Try.underlying70 b2 (encS s) Y.out.2.2.1 rfl ?_))
                intro W8 hI g8 z8
                obtain ⟨r2, hr2⟩ : ∃ r2, r2 = W7.heap.size := ⟨_, rfl⟩
                rw [← hr2] at hI ⊢
                have h0 : OC w W8 b2 r2 s (encS s) N E (L.filter (fun p => decide (p.1 ≠ nm))) A6 c6 out nm := by
                  obtain ⟨hgi, hmi, hs', hsE, n1, n6, n7, hkn, hnn, hb2l⟩ := Y.out
                  have hb8 : Below W7.heap.size W7 W8 := ⟨g8.os, g8.tape, g8.output, g8.size, fun k hk => g8.block k hk (by simp)⟩
                  refine ⟨n1.below hb8 n1.lt, hI, OwnS.below n6 hb8, n7.trans (hb8.mono n7.size), HB2.out.lf.del.congr fun x _ _ => ?_⟩
                  unfold fMid
                  by_cases hx : x ∈ s
                  · have hxs : (x, Value.bool true) ∈ encS s := List.mem_map.2 ⟨x, hx, rfl⟩
                    rw [if_pos hxs]
                  · have hxs : (x, Value.bool true) ∉ encS s := fun h => hx (by obtain ⟨y, hy, e⟩ := List.mem_map.1 h; injection e with e; rw [← e]; exact hy)
                    rw [if_neg hxs]
                    exact cnt_no (fun h => hx ((hsE x).2 h))
                have H2 := Lib.hid h0
                have HR : w.heap.size ≤ r2 := by rw [hr2]; exact Y.out.2.2.2.2.2.2.1.size
                clear h0 hI g8 z8 hr2 hcc
                obtain ⟨q1, rfl⟩ : ∃ q1 : Nat, q1 = gk := ⟨_, rfl⟩
                go_wp2_with fail
                go_loopg [] (s.length + 1) (fun q3 wr => ∃ (L2 : List (ByteArray × Nat)) (left : Ents), left.length < q3 ∧ Hid (OC w wr b2 r2 s left N E L2 A6 c6 out nm))
                case atStart => exact ⟨_, encS s, by simp [encS], H2⟩
                case round =>
                  obtain ⟨L2, left, hq3, HI⟩ := hrel
                  clear H2
                  go_wp2_with (at_next; refine wpList_nextAt _ rfl (.tmp 54) rfl b2 r2 (encS s) left HI.out.it rfl ?_ ?_)
                  · intro hl
                    have HL := Lib.hid hl
                    clear hl
                    go_wp2_with fail
                    have hlen2 := nodup_len Y.out.2.2.2.2.2.2.2.1.nodup.1 Y.out.2.2.2.2.2.2.2.1.nodup.2
                    rw [List.length_append, List.length_singleton] at hlen2
                    go_roundg (N.length - out.length)
                    case measure => omega
                    case rel =>
                      obtain ⟨m1, m2, m3, m4, m5⟩ := HI.out
                      refine ⟨L2, A6, c6, out ++ [nm], by rw [List.length_append]; rfl, by rw [List.length_append, List.length_singleton]; omega, ⟨m1, m3, m4, m5.congr fun x _ _ => ?_, Y.out.2.2.2.2.2.2.2.1⟩⟩
                      unfold fMid
                      rw [if_neg (by rw [HL.out]; exact List.not_mem_nil)]
                  · intro x v W9 hx hI hg hz hen
                    obtain ⟨hgi, hmi, hs', hsE, n1, n6, n7, hkn, hnn, hb2l⟩ := Y.out
                    obtain ⟨m1, m2, m3, m4, m5⟩ := HI.out
                    obtain ⟨x', hxs, hke⟩ := List.mem_map.1 (m2.sub hx)
                    injection hke with e1 e2
                    subst e1
                    subst e2
                    have hxE : E x' nm := (hsE x').1 hxs
                    have hxN := (X.out.1.inN _ _ hxE).1
                    have hxz : x'.size ≤ maxLen := X.out.1.size_le hxN
                    have hxo : x' ∉ out ++ [nm] := by
                      intro h
                      rcases List.mem_append.1 h with h | h
                      · have h1 := HB2.out.kn.closed h hxE
                        exact (HN.out.2.1).2 h1
                      · rw [List.mem_singleton] at h
                        subst h; exact hnn hxE
                    have k1 : MapAt W9 w.heap.size (encF L2) := m1.step m2 hg
                    have k3 : OwnS W9 w.heap.size A6 c6 (out ++ [nm]) := OwnS.step m3 m2 hg
                    have k4 : Below w.heap.size w W9 := m4.grown hg m4.size (fun j e => by injection e with e; rw [← e]; exact HR)
                    obtain ⟨cx, hcx⟩ : ∃ cx, cx = cntO N E (out ++ [nm]) x' := ⟨_, rfl⟩
                    have hcl2 : cx ≤ N.length := by rw [hcx]; exact cnt_le
                    have hfx : fMid N E out nm left x' = cx + 1 := by
                      unfold fMid
                      rw [if_pos hx, hcx]
                      exact cnt_yes X.out.1.nodup X.out.1.inN (HN.out.2.1).2 hxE
                    have hmem := m5.mem hxN hxo
                    rw [hfx] at hmem
                    have hget := getE_encF_yes k1.keysF_nodup hmem
                    rw [show ((cx + 1 : Nat) : Int) = (cx : Int) + 1 from by omega] at hget
                    have hleft := length_delE_lt hx
                    have U := Lib.hid (And.intro k1 (And.intro k3 (And.intro k4 (And.intro hcx (And.intro hmem (And.intro hget (And.intro hI (And.intro hx (And.intro hxE (And.intro hxN hxo))))))))))
                    clear hgi hmi hs' hsE n1 n6 n7 hkn hnn hb2l m1 m2 m3 m4 m5 hxs hxE hxN hxo k1 k3 k4 hcx hfx hmem hget hx hI hg hz
                    go_wp2_with (first | (at_lookup; refine wpList_lookAt _ rfl (.tmp 59) (.tmp 60) 60 rfl 9 3 Try.underlying60 Try.underlying9 (.int .i64 0) zero3 w.heap.size (encF L2) U.out.1 rfl x' rfl (.int .i64 ((cx : Int) + 1)) (by rw [U.out.2.2.2.2.2.1]; rfl) ?_) | (at_mapUpdate; refine wpList_putAt _ rfl (.tmp 59) (.tmp 60) (.tmp 62) 60 rfl 9 3 Try.underlying60 Try.underlying9 w.heap.size (encF L2) U.out.1 rfl x' rfl hxz (.int .i64 (cx : Nat)) (by go_num) ?_))
                    intro W10 h10 g10 z10
                    have U2 := Lib.hid (And.intro h10 g10)
                    clear h10 g10 z10
                    go_wp2_with fail
                    obtain ⟨k1, k3, k4, hcx, hmem, hget, hI, hx, hxE, hxN, hxo⟩ := U.out
                    obtain ⟨h10, g10⟩ := U2.out
                    obtain ⟨F', hF, _, hF'⟩ := putE_encF_old (d := cx) hmem
                    rw [hF] at h10
                    go_roundg left.length
                    case measure => omega
                    case rel =>
                      refine ⟨F', delE left x', hleft, ⟨h10, hI.put k1 (by have := Y.out.2.2.2.2.2.2.2.2.2; omega) g10, OwnS.grown k3 k1 g10, k4.grown g10 k4.size (fun j e => by injection e with e; omega), HI.out.lf.put hxN hxo hF' ?_ (fun y hy => ?_)⟩⟩
                      · unfold fMid
                        have e : (x', Value.bool true) ∉ delE left x' := fun h => (mem_delE.1 h).2 rfl
                        rw [if_neg e, hcx]
                      · unfold fMid
                        by_cases hyl : (y, Value.bool true) ∈ left
                        · rw [if_pos hyl, if_pos (mem_delE.2 ⟨hyl, hy⟩)]
                        · have e : (y, Value.bool true) ∉ delE left x' := fun h => hyl (mem_delE.1 h).1
                          rw [if_neg hyl, if_neg e]
              · have HC0 := Lib.hid hc0
                go_wp2_with (at_lookup; refine wpList_lookAt _ rfl (.tmp 38) (.tmp 39) 60 rfl 9 3 Try.underlying60 Try.underlying9 (.int .i64 0) zero3 w.heap.size (encF L) HB2.out.mp rfl nm rfl (.int .i64 (cn : Nat)) (by rw [HN.out.2.2]; rfl) ?_)
                go_roundg (rr.length - k)
                case measure => omega
                case rel =>
                  refine ⟨rfl, rfl, k + 1, by go_num, by omega, by omega, fun j z hj hz => ?_⟩
                  by_cases e : j = k
                  · subst e
                    rw [HN.out.1] at hz
                    injection hz with hz
                    rw [← hz, ← HCN.out]; exact HC0.out
                  · exact HH.out j z (by omega) hz
            · go_wp2_with fail
              rw [Exit.noGoto_ret]
              go_ret2
              obtain ⟨m1, m2, m3, m4, m5⟩ := HB2.out
              refine ⟨m3, .inr ⟨rfl, out, m5, ?_, fun z hz ho => ?_⟩⟩
              · obtain ⟨p, hp⟩ := List.exists_mem_of_length_pos (by have := HZ.out; omega : 0 < L.length)
                exact ⟨p.1, ((m4.keys p.1).1 ⟨p.2, hp⟩)⟩
              · obtain ⟨j, hj⟩ := List.getElem?_of_mem ((Z.out.2.1 z).2 ⟨hz, ho⟩)
                have hjl := (List.getElem?_eq_some_iff.1 hj).1
                have h1 := HH.out j z (by omega) hj
                exact Classical.byContradiction fun hn => h1 ((cnt_zero X.out.1.inN).2 fun y hy => Classical.byContradiction fun ho => hn ⟨y, hy, ho⟩)
    · intro x v W4 hx hI hg hz hen
      obtain ⟨m1, m2, m3, m4⟩ := HI.out
      obtain ⟨hGr, hN⟩ := X.out
      obtain ⟨p, hp, hke⟩ := List.mem_map.1 (m2.sub hx)
      injection hke with e1 e2
      subst e1
      subst e2
      have hpN : p.1 ∈ N := by rw [← hGr.no]; exact List.mem_map.2 ⟨p, hp, rfl⟩
      have hsz := hGr.size_le hpN
      obtain ⟨s, hs, hsE⟩ := hGr.so p hp
      have hslt := hs.lt
      have n1 : MapAt W4 w.heap.size (encF L) := m1.step m2 hg
      have hbl4 : Below w.heap.size w W4 := m3.grown hg m3.size (fun j e => by injection e with e; rw [← e]; exact hrw)
      have n2 : MapAt W4 p.2 (encS s) := hs.below hbl4 hslt
      have hsl := cnt_start hGr.nodup hGr.inN hs.keys_nodup hsE
      have hbo := hGr.mo.lt
      have hleft := length_delE_lt hx
      have hno : ∀ d, (p.1, d) ∉ L := fun d h => ((m4.keys p.1).1 ⟨d, h⟩).2 (List.mem_map.2 ⟨_, hx, rfl⟩)
      have Z := Lib.hid (And.intro n1 (And.intro n2 (And.intro hbl4 (And.intro hsl (And.intro hI (And.intro (m4.new hx hpN) (And.intro hno hbo)))))))
      have hlen := n2.len (P := Try.prog) (t := 70) Try.underlying70 3
      rw [show (encS s).length = cntO N E [] p.1 from by rw [← hsl]; simp [encS]] at hlen
      clear m1 m2 m3 m4 hGr hp hs hsE n1 n2 hbl4 hsl hx hI hg hz hpN hno hbo
      go_wp2_with (first | (at_mapUpdate; refine wpList_putAt _ rfl (.tmp 24) (.tmp 25) (.tmp 27) 60 rfl 9 3 Try.underlying60 Try.underlying9 w.heap.size (encF L) Z.out.1 rfl p.1 rfl hsz (.int .i64 (cntO N E [] p.1 : Nat)) rfl ?_))
      intro W5 h5 g5 z5
      have Z5 := Lib.hid (And.intro h5 g5)
      clear h5 g5 z5
      go_wp2_with fail
      obtain ⟨h5, g5⟩ := Z5.out
      obtain ⟨n1, n2, hbl4, hsl, hI, hl, hno, hbo⟩ := Z.out
      go_roundg left.length
      case measure => omega
      case rel =>
        exact ⟨L ++ [(p.1, cntO N E [] p.1)], delE left p.1, hleft, ⟨by rw [← putE_encF_new hno]; exact h5, hI.put n1 (by omega) g5, hbl4.grown g5 hbl4.size (fun j e => by injection e with e; omega), hl⟩⟩
end Go.Proofs.Ytlccejbomgknkaa
