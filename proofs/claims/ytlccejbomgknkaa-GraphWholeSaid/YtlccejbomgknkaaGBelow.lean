/- Below, Above: the names to which ways of edges lead. -/
import Derived.Test.YtlccejbomgknkaaGVisit
namespace Go.Proofs.Ytlccejbomgknkaa
set_option linter.unusedVariables false
set_option linter.unusedSimpArgs false
open Go.RowKit Go.Maps Go.Proofs.YtlccejbomgknkaaW.PrintWords Go.Proofs.YtlccejbomgknkaaW.PrintLast

theorem Listed.lift {w w1 : World} {S : ByteArray → Prop} {e : Ending} {w' : World} (h : Listed w1 S e w') (hb : Below w.heap.size w w1) : Listed w S e w' := by
  obtain ⟨v, r, h1, h2, h3, h4, h5⟩ := h
  exact ⟨v, r, h1, h2, h3, Kd.R_lower h4 hb.size, hb.trans (h5.mono hb.size)⟩

structure CR (w wr : World) (g be : Nat) (N l : List ByteArray) (R : Rel) (k : Nat) (S : List ByteArray) : Prop where
  mp : MapAt wr (w.heap.size + 1 + 1) (encS S)
  vc : VC wr g (w.heap.size + 1 + 1) be (w.heap.size + 1 + 1 + 1) w.heap.size (w.heap.size + 1) (w.heap.size + 1 + 1 + 1 + 1)
  bl : Below w.heap.size w wr
  sn : ∀ x ∈ S, x ∈ N
  dn : ∀ a ∈ l.take k, a ∈ N → a ∈ S
  cl : ∀ x ∈ S, (∃ a ∈ l.take k, a ∈ N ∧ Reach R a x) ∧ ∀ y, R x y → y ∈ S

set_option maxRecDepth 100000 in
set_option maxHeartbeats 4000000 in
theorem closed_any {w : World} {B g be : Nat} {N : List ByteArray} {E R : Rel} {le : List (ByteArray × Nat)} (hG : GraphAt w B g N E) (hme : MapAt w be (encM le)) (hne : le.map Prod.fst = N) (hse : ∀ p ∈ le, SetAt w p.2 (R p.1)) (hRN : ∀ x y, R x y → x ∈ N ∧ y ∈ N) (hN : N.length ≤ 1000000)
    (A : Option Addr) (c : Nat) (l : List ByteArray) (hl : Kd.C Kd.string w A l.length l) :
    Calls Try.prog 43 #[.pointer (some ⟨g, 0, none⟩), .map (some be), .slice A l.length c] w (Listed w (fun x => ∃ a ∈ l, a ∈ N ∧ Reach R a x)) := by
  have hmm := @run_makeMap Try.prog
  have hlen := hl.2.1
  have X := Lib.hid (And.intro hG (And.intro hme (And.intro hne (And.intro hse (And.intro hRN (And.intro hN hl))))))
  clear hG hme hne hse hRN hN hl
  go_enter Try.func43, Try.ntmps43
  go_wp2
  go_loopg [15] (l.length + 1) (fun q v wr => ∃ (k : Nat) (S : List ByteArray), v = .int .i64 k ∧ k ≤ l.length ∧ q + k = l.length + 1 ∧ Hid (CR w wr g be N l R k S))
  case atStart =>
    refine ⟨0, [], rfl, by omega, by omega, ?_⟩
    have m0 := MapAt.made ((w.alloc (.cells #[.pointer (some ⟨g, 0, none⟩)] 26)).alloc (.cells #[.map (some be)] 65))
    simp only [World.size_alloc] at m0
    refine ⟨(m0.alloc _).alloc _, ⟨by go_simp, by go_simp, by go_simp, by go_simp⟩, ?_, fun x hx => (by cases hx), fun a ha => (by cases ha), fun x hx => (by cases hx)⟩
    exact ((((((Below.refl _ _).alloc (Nat.le_refl _) _).alloc (by simp) _).alloc (by simp; omega) _).alloc (by simp; omega) _).alloc (by simp; omega) _)
  case round =>
    obtain ⟨k, S, rfl, hk, hq, HA⟩ := hrel
    by_cases hlt : k < l.length
    · obtain ⟨h1, h2, h3, h4, h5, h6⟩ := HA.out
      obtain ⟨hG, hme, hne, hse, hRN, hN, hl⟩ := X.out
      obtain ⟨ad, hA, hcell⟩ := Kd.at_string (Kd.C_below hl h3) (k : Int) (by omega) (by omega)
      subst hA
      obtain ⟨nm, hnm⟩ : ∃ nm, nm = rdOf ByteArray.empty l (k : Int) := ⟨_, rfl⟩
      rw [← hnm] at hcell
      simp only [Int.toNat_natCast] at hcell
      have HN := Lib.hid hnm
      have hcv := h2.v
      have HC := Lib.hid (visit_any hG hme hne hse hRN (by omega) N.length S wr nm h2 h3 h1 h4 (by omega))
      clear h1 h2 h3 h4 h5 h6 hG hme hne hse hRN hN hl hnm
      go_wp2_with fail
      refine HC.out.mono ?_
      rintro e w2 ⟨rfl, hvis⟩
      have HV := Lib.hid hvis
      clear hvis hcv hcell
      go_wp2_with fail
      go_roundg (l.length - k)
      case measure => omega
      case rel =>
        obtain ⟨h1, h2, h3, h4, h5, h6⟩ := HA.out
        obtain ⟨S', t1, t2, t3, t4, t5, t6⟩ := HV.out
        refine ⟨k + 1, S', by go_num, by omega, by omega, ⟨t1, h2.grown h1 t2, h3.grown t2 h3.size (fun j e => by injection e with e; omega), t4, ?_, ?_⟩⟩
        · intro a ha haN
          rcases (take_mem hlt HN.out a).1 ha with ha | rfl
          · exact t3 a (h5 a ha haN)
          · exact t5 haN
        · intro x hx
          by_cases hxS : x ∈ S
          · obtain ⟨⟨a, q1, q2⟩, q3⟩ := h6 x hxS
            exact ⟨⟨a, (take_mem hlt HN.out a).2 (.inl q1), q2⟩, fun y hy => t3 y (q3 y hy)⟩
          · obtain ⟨q1, q2⟩ := t6 x hx hxS
            refine ⟨⟨nm, (take_mem hlt HN.out nm).2 (.inr rfl), ?_, q1⟩, q2⟩
            have hRN := X.out.2.2.2.2.1
            cases q1 with
            | refl => exact t4 _ hx
            | head e1 _ => exact (hRN _ _ e1).1
    · have hkl : k = l.length := by omega
      subst hkl
      obtain ⟨h1, h2, h3, h4, h5, h6⟩ := HA.out
      have hcs := h2.s
      have HC := Lib.hid (sorted46 h1 (by
        have := nodup_len h1.keys_nodup h4
        have := X.out.2.2.2.2.2.1
        simp only [encS, List.length_map]
        omega))
      clear h1 h2 h3 h4 h5 h6
      go_wp2_with fail
      refine HC.out.mono ?_
      rintro e w2 ⟨v, r, rfl, hlst⟩
      have HL := Lib.hid hlst
      clear hlst hcs
      go_wp2_with fail
      go_ret
      obtain ⟨h1, h2, h3, h4, h5, h6⟩ := HA.out
      refine listed_congr (fun x => ?_) (Listed.lift (w1 := wr) ⟨v, r, rfl, HL.out⟩ h3)
      rw [fst_encS]
      rw [List.take_length] at h5 h6
      constructor
      · exact fun hx => (h6 x hx).1
      · rintro ⟨a, q1, q2, q3⟩
        have : ∀ {p q : ByteArray}, Reach R p q → p ∈ S → q ∈ S := by
          intro p q hpq
          induction hpq with
          | refl x => exact fun h => h
          | head e1 _ ih => exact fun h => ih ((h6 _ h).2 _ e1)
        exact this q3 (h5 a q1 q2)
end Go.Proofs.Ytlccejbomgknkaa
