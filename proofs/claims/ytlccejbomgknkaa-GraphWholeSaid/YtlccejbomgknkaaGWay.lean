/- Way: the least of the shortest ways. -/
import Derived.Test.YtlccejbomgknkaaGFar
namespace Go.Proofs.Ytlccejbomgknkaa
set_option linter.unusedVariables false
set_option linter.unusedSimpArgs false
open Go.RowKit Go.Maps Go.Proofs.YtlccejbomgknkaaW.PrintWords Go.Proofs.YtlccejbomgknkaaW.PrintLast

/-- The way that goes on, at each name, to the least one that is a step nearer. -/
def GW (E : Rel) (to_ : ByteArray) : Nat → ByteArray → List ByteArray → Prop
  | 0, x, p => p = [x]
  | d + 1, x, p => ∃ y q, p = x :: q ∧ GW E to_ d y q ∧ E x y ∧ Dist E y to_ d ∧ ∀ z, E x z → Dist E z to_ d → z = y ∨ bs y < bs z

/-- What Way hands back. -/
def Wayed (w : World) (N : List ByteArray) (E : Rel) (x y : ByteArray) (e : Ending) (w' : World) : Prop :=
  Below w.heap.size w w' ∧ ((∃ (A : Option Addr) (c : Nat) (p : List ByteArray) (d : Nat), e = .returned (.tuple #[.slice A p.length c, .bool true]) ∧ x ∈ N ∧ y ∈ N ∧ Dist E x y d ∧ GW E y d x p ∧ OwnS w' w.heap.size A c p) ∨
    (e = .returned (.tuple #[.slice none 0 0, .bool false]) ∧ ¬ (x ∈ N ∧ y ∈ N ∧ Reach E x y)))

set_option maxRecDepth 100000 in
set_option maxHeartbeats 8000000 in
theorem way_out {w : World} {B g : Nat} {N : List ByteArray} {E : Rel} (hG : GraphAt w B g N E) (x y : ByteArray) (h : ¬ (x ∈ N ∧ y ∈ N)) :
    Calls Try.prog 12 #[.pointer (some ⟨g, 0, none⟩), .string x, .string y] w (Wayed w N E x y) := by
  have HW : Hid (Wayed w N E x y (.returned (.tuple #[.slice none 0 0, .bool false])) w) := ⟨Below.refl _ _, .inr ⟨rfl, fun hh => h ⟨hh.1, hh.2.1⟩⟩⟩
  by_cases hx : x ∈ N
  · have hy : y ∉ N := fun hy => h ⟨hx, hy⟩
    have C1 := Lib.hid (has_yes hG x hx)
    have C2 := Lib.hid (has_no hG y hy)
    clear hx hy h hG
    go_enter Try.func12, Try.ntmps12
    go_wp2_with fail
    go_step3
    go_wp2_with fail
    refine C1.out.mono ?_
    rintro e w1 ⟨rfl, hw⟩
    obtain rfl : w = w1 := hw.symm
    go_wp2_with fail
    refine C2.out.mono ?_
    rintro e w1 ⟨rfl, hw⟩
    obtain rfl : w = w1 := hw.symm
    go_wp2_with fail
    rw [Exit.noGoto_ret]
    go_ret2
    exact HW.out
  · have C1 := Lib.hid (has_no hG x hx)
    clear hx h hG
    go_enter Try.func12, Try.ntmps12
    go_wp2_with fail
    go_step3
    go_wp2_with fail
    refine C1.out.mono ?_
    rintro e w1 ⟨rfl, hw⟩
    obtain rfl : w = w1 := hw.symm
    go_wp2_with fail
    rw [Exit.noGoto_ret]
    go_ret2
    exact HW.out

/-- Between two steps. -/
structure WS (W1 wr : World) (E : Rel) (x y : ByteArray) (D d : Nat) (cur : ByteArray) (A : Option Addr) (c : Nat) (out : List ByteArray) : Prop where
  bl : Below W1.heap.size W1 wr
  ow : OwnS wr W1.heap.size A c out
  ds : Dist E cur y d
  gw : ∃ pre, out = pre ++ [cur] ∧ ∀ q, GW E y d cur q → GW E y D x (pre ++ q)
  ln : out.length + d = D + 1

set_option maxRecDepth 100000 in
set_option maxHeartbeats 8000000 in
theorem way_in {w : World} {B g : Nat} {N : List ByteArray} {E : Rel} (hG : GraphAt w B g N E) (hN : N.length ≤ 1000000) (x y : ByteArray) (hx : x ∈ N) (hy : y ∈ N) :
    Calls Try.prog 12 #[.pointer (some ⟨g, 0, none⟩), .string x, .string y] w (Wayed w N E x y) := by
  have C1 := Lib.hid (has_yes hG x hx)
  have C2 := Lib.hid (has_yes hG y hy)
  have C3 := Lib.hid (far_any hG hN y hy)
  have X := Lib.hid (And.intro hG (And.intro hN (And.intro hx hy)))
  clear hG hN hx hy
  go_enter Try.func12, Try.ntmps12
  go_wp2_with fail
  go_step3
  go_wp2_with fail
  refine C1.out.mono ?_
  rintro e w1 ⟨rfl, hw⟩
  obtain rfl : w = w1 := hw.symm
  go_wp2_with fail
  refine C2.out.mono ?_
  rintro e w1 ⟨rfl, hw⟩
  obtain rfl : w = w1 := hw.symm
  go_wp2_with fail
  refine C3.out.mono ?_
  rintro e W1 ⟨b, F, rfl, hmp, hF, hFN, hbl⟩
  clear C1 C2 C3
  have Y := Lib.hid (And.intro hmp (And.intro hF (And.intro hFN hbl)))
  have hnd := hmp.keysF_nodup
  by_cases hin : ∃ d, Dist E x y d
  · obtain ⟨D, hD⟩ := hin
    have hv := getE_encF_yes hnd ((hF x D).2 hD)
    have HV := Lib.hid (And.intro hv hD)
    clear hv hD hnd hmp hF hFN hbl
    go_wp2_with (at_lookup; refine wpList_lookAtOk _ rfl (.tmp 30) (.tmp 31) 60 rfl 9 3 Try.underlying60 Try.underlying9 (.int .i64 0) zero3 b (encF F) Y.out.1 rfl x rfl (.int .i64 (D : Nat)) true (by rw [HV.out.1]; rfl) (by rw [HV.out.1]; rfl) ?_)
    have hDN : D ≤ 1000000 := by
      obtain ⟨⟨bo, bi, lo, li, hGr⟩, hN, hx, hy⟩ := X.out
      have := dist_lt hGr.inN hy HV.out.2
      omega
    have h0 : WS W1 (W1.alloc (.cells #[.string x] 9)) E x y D D x (some ⟨W1.heap.size, 0, none⟩) 1 [x] :=
      ⟨(Below.refl _ _).alloc (Nat.le_refl _) _, OwnS.one W1 _ (Nat.le_refl _) x, HV.out.2, ⟨[], rfl, fun q h => h⟩, by simp; omega⟩
    have H0 := Lib.hid h0
    clear h0
    go_step3
    go_wp2_with fail
    go_loopg [1, 9, 11] (D + 1) (fun q v1 v9 v11 wr => ∃ (cur : ByteArray) (d : Nat) (A : Option Addr) (c : Nat) (out : List ByteArray), v1 = .string cur ∧ v9 = .int .i64 d ∧ v11 = .slice A out.length c ∧ q = d + 1 ∧ d ≤ D ∧ Hid (WS W1 wr E x y D d cur A c out))
    case atStart => exact ⟨x, D, _, 1, [x], rfl, rfl, rfl, rfl, Nat.le_refl _, H0⟩
    case round =>
      obtain ⟨cur, d, A, c, out, rfl, rfl, rfl, hq, hdD, HA⟩ := hrel
      clear H0
      obtain ⟨q0, rfl⟩ : ∃ q0 : Nat, q0 = gk := ⟨_, rfl⟩
      by_cases hd0 : d = 0
      · subst hd0
        go_wp2_with fail
        rw [Exit.noGoto_ret]
        go_ret2
        obtain ⟨h1, h2, h3, ⟨pre, h4, h5⟩, h6⟩ := HA.out
        obtain ⟨hmp, hF, hFN, hbl⟩ := Y.out
        obtain ⟨hG, hN, hx, hy⟩ := X.out
        have hgw := h5 [cur] rfl
        rw [← h4] at hgw
        exact ⟨hbl.trans (h1.mono hbl.size), .inl ⟨A, c, out, D, rfl, hx, hy, HV.out.2, hgw, own_weaken h2 hbl.size⟩⟩
      · obtain ⟨d, rfl⟩ : ∃ d', d = d' + 1 := ⟨d - 1, by omega⟩
        clear hd0
        have hdp : 0 < (d : Int) + 1 := by omega
        obtain ⟨W2, rfl⟩ : ∃ W2 : World, W2 = wr := ⟨_, rfl⟩
        have HC := Lib.hid (Out_any (X.out.1.below (Y.out.2.2.2.trans (HA.out.bl.mono Y.out.2.2.2.size))) X.out.2.1 cur)
        go_wp2_with fail
        refine HC.out.mono ?_
        rintro e W3 ⟨v, r, rfl, hrise, hmem, hR, hbl3⟩
        obtain ⟨Ar, cr, rfl⟩ := Kd.R_slice hR
        have hrl : r.length ≤ 1000000 := by
          obtain ⟨⟨bo, bi, lo, li, hGr⟩, hN, hx, hy⟩ := X.out
          have := nodup_len (N := N) (rise_nodup hrise) (fun z hz => (hGr.inN _ _ ((hmem z).1 hz)).2)
          omega
        have Z := Lib.hid (And.intro hrise (And.intro hmem (And.intro (Kd.R_reads' hR).2.2 hbl3)))
        have hmp3 : MapAt W3 b (encF F) := (Y.out.1.below HA.out.bl Y.out.1.lt).below hbl3 (by have := HA.out.bl.size; have := Y.out.1.lt; omega)
        have HM := Lib.hid hmp3
        clear hrise hmem hR hbl3 HC hmp3
        have HK := Lib.hid (show ∀ (j : Nat) (z : ByteArray), j < 0 → r[j]? = some z → ¬ Dist E z y d from fun j z h => absurd h (by omega))
        go_wp2_with fail
        go_loopg [11, 47] (r.length + 1) (fun q2 v11 v47 wr => wr = W3 ∧ v11 = .slice A out.length c ∧ ∃ k : Nat, v47 = .int .i64 k ∧ k ≤ r.length ∧ q2 + k = r.length + 1 ∧ Hid (∀ (j : Nat) (z : ByteArray), j < k → r[j]? = some z → ¬ Dist E z y d))
        case atStart => exact ⟨rfl, rfl, 0, rfl, by omega, by omega, HK⟩
        case round =>
          obtain ⟨rfl, rfl, k, rfl, hk, hq2, HB⟩ := hrel
          clear HK
          by_cases hlt : k < r.length
          · obtain ⟨ad, hA, hcell⟩ := Kd.at_string Z.out.2.2.1 (k : Int) (by omega) (by omega)
            subst hA
            obtain ⟨nm, hnm⟩ : ∃ nm, nm = rdOf ByteArray.empty r (k : Int) := ⟨_, rfl⟩
            rw [← hnm] at hcell
            simp only [Int.toNat_natCast] at hcell
            have hrk : r[k]? = some nm := by
              rw [hnm]
              unfold rdOf
              rw [Int.toNat_natCast, List.getD_eq_getElem?_getD, List.getElem?_eq_getElem hlt]
              rfl
            have hin : nm ∈ r := List.mem_of_getElem? hrk
            have HN := Lib.hid (And.intro hrk hin)
            clear hnm hrk hin
            have hnd := HM.out.keysF_nodup
            by_cases hdist : Dist E nm y d
            · have HV2 := Lib.hid (And.intro (getE_encF_yes hnd ((Y.out.2.1 nm d).2 hdist)) hdist)
              clear hnd hdist
              have how : OwnS wr W1.heap.size A c out := OwnS.below HA.out.ow Z.out.2.2.2
              have hsz1 : W1.heap.size ≤ wr.heap.size := Nat.le_trans HA.out.bl.size Z.out.2.2.2.size
              have hol : out.length ≤ 1000000 := by have := HA.out.ln; omega
              have HO := Lib.hid (And.intro how hsz1)
              clear how hsz1
              go_wp2_with (first | (at_lookup; refine wpList_lookAtOk _ rfl (.tmp 52) (.tmp 53) 60 rfl 9 3 Try.underlying60 Try.underlying9 (.int .i64 0) zero3 b (encF F) HM.out rfl nm rfl (.int .i64 (d : Nat)) true (by rw [HV2.out.1]; rfl) (by rw [HV2.out.1]; rfl) ?_) | (at_builtin; refine wpList_pushS rfl (.tmp 65) (.tmp 67) rfl W1.heap.size c A out HO.out.1 rfl nm rfl (by omega) HO.out.2 ?_))
              intro A6 c6 W6 h6 g6
              have Z6 := Lib.hid (And.intro h6 g6)
              clear h6 g6
              go_wp2_with fail
              obtain ⟨h6, g6⟩ := Z6.out
              obtain ⟨o1, o2, o3, ⟨pre, o4, o5⟩, o6⟩ := HA.out
              obtain ⟨hrise, hmem, hC, hbl3⟩ := Z.out
              obtain ⟨hrk, hin⟩ := HN.out
              go_roundg (d + 1)
              case measure => omega
              case rel =>
                refine ⟨nm, d, A6, c6, out ++ [nm], rfl, by go_num, by rw [List.length_append]; rfl, rfl, by omega, ⟨?_, h6, HV2.out.2, ⟨pre ++ [cur], by rw [o4], fun q hq => ?_⟩, ?_⟩⟩
                · exact (o1.trans (hbl3.mono o1.size)).grown g6 HO.out.2 (fun j e => (OwnS.lt HO.out.1 e).1)
                · have := o5 (cur :: q) ⟨nm, q, rfl, hq, (hmem nm).1 hin, HV2.out.2, fun z hz hdz => ?_⟩
                  · simpa using this
                  · obtain ⟨j, hj⟩ := List.getElem?_of_mem ((hmem z).2 hz)
                    rcases Nat.lt_trichotomy j k with h1 | h1 | h1
                    · exact absurd hdz (HB.out j z h1 hj)
                    · subst h1
                      rw [hrk] at hj
                      injection hj with hj
                      exact .inl hj.symm
                    · have hjl := (List.getElem?_eq_some_iff.1 hj).1
                      have h2 := (List.pairwise_iff_getElem.1 hrise) k j hlt hjl h1
                      rw [List.getElem?_eq_getElem hjl] at hj
                      rw [List.getElem?_eq_getElem hlt] at hrk
                      injection hj with hj
                      injection hrk with hrk
                      rw [hj, hrk] at h2
                      exact .inr h2
                · rw [List.length_append, List.length_singleton]
                  omega
            · have HB2 : Hid (∀ (j : Nat) (z : ByteArray), j < k + 1 → r[j]? = some z → ¬ Dist E z y d) := by
                intro j z hj hz
                by_cases e : j = k
                · subst e
                  have := HN.out.1
                  rw [this] at hz
                  injection hz with hz
                  rw [← hz]; exact hdist
                · exact HB.out j z (by omega) hz
              by_cases hany : ∃ e, Dist E nm y e
              · obtain ⟨e, he⟩ := hany
                have hne : ((e : Int) == (d : Int)) = false := by
                  simp only [beq_eq_false_iff_ne, ne_eq]
                  intro h
                  exact hdist (by rw [show d = e from by omega]; exact he)
                have HV2 := Lib.hid (getE_encF_yes hnd ((Y.out.2.1 nm e).2 he))
                clear hnd hdist he
                go_wp2_with (first | (at_lookup; refine wpList_lookAtOk _ rfl (.tmp 52) (.tmp 53) 60 rfl 9 3 Try.underlying60 Try.underlying9 (.int .i64 0) zero3 b (encF F) HM.out rfl nm rfl (.int .i64 (e : Nat)) true (by rw [HV2.out]; rfl) (by rw [HV2.out]; rfl) ?_))
                go_roundg (r.length - k)
                case measure => omega
                case rel => exact ⟨rfl, rfl, k + 1, by go_num, by omega, by omega, HB2⟩
              · have HV2 := Lib.hid (getE_encF_no (F := F) (x := nm) (fun d h => hany ⟨d, (Y.out.2.1 nm d).1 h⟩))
                clear hnd hdist hany
                go_wp2_with (first | (at_lookup; refine wpList_lookAtOk _ rfl (.tmp 52) (.tmp 53) 60 rfl 9 3 Try.underlying60 Try.underlying9 (.int .i64 0) zero3 b (encF F) HM.out rfl nm rfl (.int .i64 0) false (by rw [HV2.out]; rfl) (by rw [HV2.out]; rfl) ?_))
                go_roundg (r.length - k)
                case measure => omega
                case rel => exact ⟨rfl, rfl, k + 1, by go_num, by omega, by omega, HB2⟩
          · exfalso
            obtain ⟨z, hz, hdz⟩ := dist_next HA.out.ds
            obtain ⟨j, hj⟩ := List.getElem?_of_mem ((Z.out.2.1 z).2 hz)
            have := (List.getElem?_eq_some_iff.1 hj).1
            exact HB.out j z (by omega) hj hdz
  · have hno : ∀ d, (x, d) ∉ F := fun d h => hin ⟨d, (hF x d).1 h⟩
    have hv := getE_encF_no hno
    have HV := Lib.hid (And.intro hv hin)
    clear hv hin hnd hno hmp hF hFN hbl
    go_wp2_with (at_lookup; refine wpList_lookAtOk _ rfl (.tmp 30) (.tmp 31) 60 rfl 9 3 Try.underlying60 Try.underlying9 (.int .i64 0) zero3 b (encF F) Y.out.1 rfl x rfl (.int .i64 0) false (by rw [HV.out.1]; rfl) (by rw [HV.out.1]; rfl) ?_)
    rw [Exit.noGoto_ret]
    go_ret2
    exact ⟨Y.out.2.2.2, .inr ⟨rfl, fun hh => HV.out.2 (reach_dist.1 hh.2.2)⟩⟩
end Go.Proofs.Ytlccejbomgknkaa
