/- Cycle: the least of the shortest cycles. -/
import Derived.Test.YtlccejbomgknkaaGCmp
import Derived.Laws.Cover3
namespace Go.Proofs.Ytlccejbomgknkaa
set_option linter.unusedVariables false
set_option linter.unusedSimpArgs false
open Go.RowKit Go.Maps Go.Proofs.YtlccejbomgknkaaW.PrintWords Go.Proofs.YtlccejbomgknkaaW.PrintLast

/-- What is known of the best when some edges have been looked at. -/
def Best (E : Rel) (P : ByteArray → ByteArray → Prop) : Option (List ByteArray) → Prop
  | none => ∀ x y, P x y → E x y → ¬ Reach E y x
  | some b => (∃ x y, CandAt E x y b) ∧ ∀ x y, P x y → E x y → Reach E y x → ∃ c', CandAt E x y c' ∧ ¬ better c' b
theorem Best.congr {E : Rel} {P P' : ByteArray → ByteArray → Prop} {b : Option (List ByteArray)} (h : Best E P b) (hp : ∀ x y, E x y → P' x y → P x y) : Best E P' b := by
  cases b with
  | none => exact fun x y hP hE => h x y (hp x y hE hP) hE
  | some b => exact ⟨h.1, fun x y hP hE => h.2 x y (hp x y hE hP) hE⟩
theorem Best.skip {E : Rel} {P : ByteArray → ByteArray → Prop} {b : Option (List ByteArray)} (h : Best E P b) {x y : ByteArray} (hn : ¬ Reach E y x) : Best E (fun a c => P a c ∨ (a = x ∧ c = y)) b := by
  cases b with
  | none =>
    rintro a c (hP | ⟨rfl, rfl⟩) hE
    · exact h a c hP hE
    · exact hn
  | some b =>
    refine ⟨h.1, ?_⟩
    rintro a c (hP | ⟨rfl, rfl⟩) hE hr
    · exact h.2 a c hP hE hr
    · exact absurd hr hn
theorem better_irrefl (c : List ByteArray) : ¬ better c c := by
  have hl : ∀ l : List ByteArray, ¬ lexlt l l := by
    intro l
    induction l with
    | nil => exact fun h => h
    | cons x l ih => exact fun h => h.elim (fun h => List.lt_irrefl _ h) (fun h => ih h.2)
  rintro (h | ⟨_, h⟩)
  · omega
  · exact hl c h
/-- The first, or a better one. -/
theorem Best.take {E : Rel} {P : ByteArray → ByteArray → Prop} {b : Option (List ByteArray)} (h : Best E P b) {x y : ByteArray} {c : List ByteArray} (hc : CandAt E x y c) (hb : ∀ b', b = some b' → better c b') : Best E (fun a c => P a c ∨ (a = x ∧ c = y)) (some c) := by
  refine ⟨⟨x, y, hc⟩, ?_⟩
  rintro u v (hP | ⟨rfl, rfl⟩) hE hr
  · cases b with
    | none => exact absurd hr (h u v hP hE)
    | some b =>
      obtain ⟨c', hc', hn⟩ := h.2 u v hP hE hr
      exact ⟨c', hc', fun hh => hn (better_trans hh (hb b rfl))⟩
  · exact ⟨c, hc, better_irrefl c⟩
theorem Best.keep {E : Rel} {P : ByteArray → ByteArray → Prop} {b : List ByteArray} (h : Best E P (some b)) {x y : ByteArray} {c : List ByteArray} (hc : CandAt E x y c) (hb : ¬ better c b) : Best E (fun a c => P a c ∨ (a = x ∧ c = y)) (some b) := by
  refine ⟨h.1, ?_⟩
  rintro u v (hP | ⟨rfl, rfl⟩) hE hr
  · exact h.2 u v hP hE hr
  · exact ⟨c, hc, hb⟩

/-- Where the best lies. -/
def BestV (w : World) (base : Nat) (v : Value) : Option (List ByteArray) → Prop
  | none => v = .slice none 0 0
  | some b => ∃ ap c, v = .slice (some ap) b.length c ∧ OwnS w base (some ap) c b
theorem BestV.below {w w' : World} {base : Nat} {v : Value} {b : Option (List ByteArray)} (h : BestV w base v b) (hb : Below w.heap.size w w') : BestV w' base v b := by
  cases b with
  | none => exact h
  | some b =>
    obtain ⟨ap, c, e, ho⟩ := h
    exact ⟨ap, c, e, OwnS.below ho hb⟩

/-- What Cycle hands back. -/
def Cycled (w : World) (E : Rel) (e : Ending) (w' : World) : Prop :=
  Below w.heap.size w w' ∧ ((∃ (A : Option Addr) (c : Nat) (b : List ByteArray), e = .returned (.tuple #[.slice A b.length c, .bool true]) ∧ IsCyc E b ∧ OwnS w' w.heap.size A c b) ∨
    (e = .returned (.tuple #[.slice none 0 0, .bool false]) ∧ ∀ x y, E x y → ¬ Reach E y x))

/-- Between two edges. -/
structure CB (w wr : World) (E : Rel) (P : ByteArray → ByteArray → Prop) (v : Value) (b : Option (List ByteArray)) : Prop where
  bl : Below w.heap.size w wr
  bv : BestV wr w.heap.size v b
  be : Best E P b

theorem own_weaken2 {w : World} {B B' c : Nat} {A : Option Addr} {xs : List ByteArray} (h : OwnS w B A c xs) (hb : B' ≤ B) : OwnS w B' A c xs := own_weaken h hb

section
variable {w : World} {ops : Array Oper} {rest : List Oper} {o : Oper} {a : Act} {Q : Exit → Act → World → Prop}
set_option maxRecDepth 100000 in
/-- 'append([]string{x}, ys...)': a row of the call's own. -/
theorem wpList_consS (hgd : o.guard = none) (s x : Operand) (ho : o.op = .call { callee := .builtin .append, args := #[s, x], argTypes := #[23, 23] })
    (base : Nat) (nm : ByteArray) (W : World) (hw : w = W.alloc (.cells #[.string nm] 9)) (hs : a.eval s = .slice (some ⟨W.heap.size, 0, none⟩) 1 1) (ap : Addr) (ys : List ByteArray) (n c : Nat) (hx : a.eval x = .slice (some ap) n c) (hn : n = ys.length) (hy : Kd.C Kd.string W (some ap) ys.length ys)
    (hl : ys.length ≤ 1000000) (hbase : base ≤ W.heap.size)
    (h : ∀ (A' : Addr) (c' : Nat) (w' : World), OwnS w' base (some A') c' (nm :: ys) → Below W.heap.size W w' → wpList Try.prog ops Q rest (a.put o.dst (.slice (some A') (n + 1) c')) w') : wpList Try.prog ops Q (o :: rest) a w := by
  obtain ⟨i0, hi, hz0, hz1, hz2⟩ := info_parts infoStr
  subst hw
  have hown : OwnS (W.alloc (.cells #[.string nm] 9)) base (some ⟨W.heap.size, 0, none⟩) 1 [nm] := OwnS.one W base hbase nm
  refine wpList_append_own _ hgd s x 23 ho base 9 i0 (.string ⟨#[]⟩) 1 16 Try.underlying23 hi hz0 hz1 hz2 rfl (by decide) _ 1 (encs Value.string [nm]) hs hown ap n c (encs Value.string ys) hx (by rw [encs_length, Nat.mul_one, hn]) ?_ ?_ ?a63 ?aby ?aba ?_
  case a63 => simp only [maxLen]; omega
  case aby => rw [hn]; omega
  case aba => exact Nat.le_trans hbase (by simp)
  · intro j u hj
    have hjl : j < ys.length := by have := (List.getElem?_eq_some_iff.1 hj).1; rwa [encs_length] at this
    obtain ⟨ad, hA, hc⟩ := Kd.at_string hy (j : Int) (by omega) (by omega)
    injection hA with hA
    subst hA
    simp only [Int.toNat_natCast] at hc
    refine Lib.cell?_alloc_some _ ?_
    rw [hc]
    unfold encs at hj
    rw [List.getElem?_map, has_at hjl] at hj
    injection hj with hj
    rw [← hj]
  · intro u hu
    obtain ⟨y, _, rfl⟩ := List.mem_map.1 hu
    rfl
  · intro v' w' h1 h2 h3
    rw [Nat.add_comm, hn] at h1
    obtain ⟨g', cap', rfl⟩ := Go.ownsRow_succ h1
    rw [← hn]
    refine h ⟨g', 0, none⟩ cap' w' ?_ (((Below.refl _ W).alloc (Nat.le_refl _) _).grown h2 (by simp) (fun k e => by simp [Value.ownBlock] at e; omega))
    show w'.ownsRow base 9 1 _ (ys.length + 1) (encs Value.string (nm :: ys))
    exact h1
end

set_option maxRecDepth 100000 in
set_option maxHeartbeats 8000000 in
theorem Cycle_any {w : World} {B g : Nat} {N : List ByteArray} {E : Rel} (hG : GraphAt w B g N E) (hN : N.length ≤ 1000000) :
    Calls Try.prog 32 #[.pointer (some ⟨g, 0, none⟩)] w (Cycled w E) := by
  have q23 : ∀ (w : World) (a : Option Addr) (n c n' c' : Nat), (binOp .eql 23 (.slice a n c) (.slice none n' c')).run Try.prog w = .ok (.bool a.isNone) w := fun w a n c n' c' => Lib.run_eql_slice_nil w _ _ a n c n' c' Try.underlying23
  have n23 : ∀ (w : World) (a : Option Addr) (n c : Nat), (binOp .neq 23 (.slice a n c) (.slice none 0 0)).run Try.prog w = .ok (.bool (!a.isNone)) w := fun w a n c => run_neq_slice_nil w 23 9 a n c Try.underlying23
  have HNm := Lib.hid (Names_any hG hN)
  have X := Lib.hid (And.intro hG hN)
  clear hG hN
  go_enter Try.func32, Try.ntmps32
  go_wp2_with fail
  refine HNm.out.mono ?_
  rintro e W1 ⟨v, rn, rfl, hrise, hmem, hR, hb1⟩
  obtain ⟨An, cn, rfl⟩ := Kd.R_slice hR
  have hrn : rn.length ≤ 1000000 := by
    have := nodup_len (s := rn) (N := N) (rise_nodup hrise) (fun z hz => (hmem z).1 hz)
    have := X.out.2
    omega
  have Y := Lib.hid (And.intro hmem (And.intro (Kd.R_reads' hR).2.2 hb1))
  have h0 : CB w W1 E (fun a c => ∃ i, i < 0 ∧ rn[i]? = some a) (.slice none 0 0) none := ⟨hb1, rfl, fun x y h => by obtain ⟨i, hi, _⟩ := h; omega⟩
  have H0 := Lib.hid h0
  clear h0 hrise hmem hR hb1 HNm
  go_wp2_with fail
  go_loopg [4, 15] (rn.length + 1) (fun q v4 v15 wr => ∃ (k : Nat) (b : Option (List ByteArray)), v15 = .int .i64 k ∧ k ≤ rn.length ∧ q + k = rn.length + 1 ∧ Hid (CB w wr E (fun a c => ∃ i, i < k ∧ rn[i]? = some a) v4 b) ∧ Hid (Below W1.heap.size W1 wr))
  case atStart => exact ⟨0, none, rfl, by omega, by omega, H0, Below.refl _ _⟩
  case round =>
    obtain ⟨k, b, rfl, hk, hq, HA, HB1⟩ := hrel
    clear H0
    obtain ⟨W2, rfl⟩ : ∃ W2 : World, W2 = wr := ⟨_, rfl⟩
    obtain ⟨q0, rfl⟩ : ∃ q0 : Nat, q0 = gk := ⟨_, rfl⟩
    by_cases hlt : k < rn.length
    · obtain ⟨ad, hA, hcell⟩ := Kd.at_string (Kd.C_below Y.out.2.1 HB1.out) (k : Int) (by omega) (by omega)
      subst hA
      have hrk := has_at hlt
      obtain ⟨nm, hnm⟩ : ∃ nm, nm = rdOf ByteArray.empty rn (k : Int) := ⟨_, rfl⟩
      rw [← hnm] at hcell hrk
      simp only [Int.toNat_natCast] at hcell
      have HO := Lib.hid (Out_any (X.out.1.below HA.out.bl) X.out.2 nm)
      have HRK := Lib.hid hrk
      clear hnm hrk
      go_wp2_with fail
      refine HO.out.mono ?_
      rintro e W3 ⟨v, r, rfl, hrise, hmem, hR, hb3⟩
      obtain ⟨Ar, cr, rfl⟩ := Kd.R_slice hR
      have hrl : r.length ≤ 1000000 := by
        obtain ⟨⟨bo, bi, lo, li, hGr⟩, hN⟩ := X.out
        have := nodup_len (N := N) (rise_nodup hrise) (fun z hz => (hGr.inN _ _ ((hmem z).1 hz)).2)
        omega
      have h0 : CB w W3 E (fun a c => (∃ i, i < k ∧ rn[i]? = some a) ∨ (a = nm ∧ ∃ j, j < 0 ∧ r[j]? = some c)) u4 b :=
        ⟨HA.out.bl.trans (hb3.mono HA.out.bl.size), HA.out.bv.below hb3, HA.out.be.congr fun x y _ h => h.elim id (fun h => by obtain ⟨_, j, hj, _⟩ := h; omega)⟩
      have H1 := Lib.hid h0
      have HB3 := Lib.hid (HB1.out.trans (hb3.mono HB1.out.size))
      have Z := Lib.hid (And.intro hmem (Kd.R_reads' hR).2.2)
      clear h0 hrise hmem hR hb3 HO HA HB1
      go_wp2_with fail
      go_loopg [4, 23] (r.length + 1) (fun q2 v4 v23 wr => ∃ (j : Nat) (b : Option (List ByteArray)), v23 = .int .i64 j ∧ j ≤ r.length ∧ q2 + j = r.length + 1 ∧ Hid (CB w wr E (fun a c => (∃ i, i < k ∧ rn[i]? = some a) ∨ (a = nm ∧ ∃ i, i < j ∧ r[i]? = some c)) v4 b) ∧ Hid (Below W3.heap.size W3 wr))
      case atStart => exact ⟨0, b, rfl, by omega, by omega, H1, Below.refl _ _⟩
      case round =>
        obtain ⟨j, b, rfl, hj, hq2, HI, HB4⟩ := hrel
        clear H1
        obtain ⟨W4, rfl⟩ : ∃ W4 : World, W4 = wr := ⟨_, rfl⟩
        obtain ⟨q1, rfl⟩ : ∃ q1 : Nat, q1 = gk := ⟨_, rfl⟩
        by_cases hjl : j < r.length
        · obtain ⟨a2, hA2, hcell2⟩ := Kd.at_string (Kd.C_below Z.out.2 HB4.out) (j : Int) (by omega) (by omega)
          subst hA2
          have hrj := has_at hjl
          obtain ⟨mv, hmv⟩ : ∃ nm, nm = rdOf ByteArray.empty r (j : Int) := ⟨_, rfl⟩
          rw [← hmv] at hcell2 hrj
          simp only [Int.toNat_natCast] at hcell2
          have hE : Hid (E nm mv) := (Z.out.1 mv).1 (List.mem_of_getElem? hrj)
          have HWy := Lib.hid (Way_any (X.out.1.below HI.out.bl) X.out.2 mv nm)
          have HRJ := Lib.hid hrj
          clear hmv hrj
          have hstep : ∀ (b' : Option (List ByteArray)), Best E (fun a c => ((∃ i, i < k ∧ rn[i]? = some a) ∨ (a = nm ∧ ∃ i, i < j ∧ r[i]? = some c)) ∨ (a = nm ∧ c = mv)) b' → Best E (fun a c => (∃ i, i < k ∧ rn[i]? = some a) ∨ (a = nm ∧ ∃ i, i < j + 1 ∧ r[i]? = some c)) b' := by
            intro b' hb
            refine hb.congr fun x y _ h => ?_
            rcases h with h | ⟨rfl, i, hi, hy⟩
            · exact .inl (.inl h)
            · by_cases e : i = j
              · subst e
                rw [HRJ.out] at hy
                injection hy with hy
                exact .inr ⟨rfl, hy.symm⟩
              · exact .inl (.inr ⟨rfl, i, by omega, hy⟩)
          have HST := Lib.hid hstep
          clear hstep
          go_wp2_with fail
          refine HWy.out.mono ?_
          rintro e W5 ⟨hb5, ⟨Ap, cp, p, d, rfl, _, _, hD, hGW, hO⟩ | ⟨rfl, hno⟩⟩
          · have hway := GW.way d hD hGW
            have hplen := hway.len
            have hpN : d ≤ 1000000 := by
              obtain ⟨⟨bo, bi, lo, li, hGr⟩, hN⟩ := X.out
              have := dist_lt hGr.inN (hGr.inN _ _ hE.out).1 hD
              omega
            have hCp := hO.reads
            have hcp := (Kd.R_reads' hO.kd).2.1
            obtain ⟨ap, hAp, _⟩ := Kd.at_string hCp (0 : Int) (by omega) (by rw [hplen]; omega)
            subst hAp
            rw [hplen] at hcp
            have htk : Kd.C Kd.string W5 (some ap) (p.take d).length (p.take d) := C_take hCp (by omega)
            have hdl : p.take d = p.dropLast := by rw [List.dropLast_eq_take, hplen]; rfl
            have htl : (p.take d).length = d := by rw [List.length_take]; omega
            have hcand : CandAt E nm mv (nm :: p.take d) := ⟨hE.out, d, p, hD, hGW, by rw [hdl]⟩
            have P5 := Lib.hid (And.intro hb5 (And.intro htk (And.intro htl hcand)))
            have HPL := Lib.hid hplen
            have hdp : 0 < (d : Int) + 1 := by omega
            have hbs : w.heap.size ≤ W5.heap.size := Nat.le_trans HI.out.bl.size hb5.size
            rw [hplen]
            clear hb5 htk htl hcand hdl hCp hO hway hD hGW HWy hplen
            go_wp2_with (at_builtin; refine wpList_consS rfl (.tmp 37) (.tmp 42) rfl w.heap.size nm W5 rfl rfl ap (p.take d) d cp rfl (P5.out.2.2.1).symm P5.out.2.1 (by rw [P5.out.2.2.1]; exact hpN) hbs ?_)
            intro ac cc W6 hown hb6
            have Z6 := Lib.hid (And.intro hown (And.intro hb6 (P5.out.1.trans (hb6.mono P5.out.1.size))))
            clear hown hb6
            have hbt : ∀ (v : Value) (bb : Option (List ByteArray)), BestV W6 w.heap.size v bb → Best E (fun a c => ((∃ i, i < k ∧ rn[i]? = some a) ∨ (a = nm ∧ ∃ i, i < j ∧ r[i]? = some c)) ∨ (a = nm ∧ c = mv)) bb → CB w W6 E (fun a c => (∃ i, i < k ∧ rn[i]? = some a) ∨ (a = nm ∧ ∃ i, i < j + 1 ∧ r[i]? = some c)) v bb ∧ Below W3.heap.size W3 W6 := fun v bb h1 h2 => ⟨⟨HI.out.bl.trans (Z6.out.2.2.mono HI.out.bl.size), h1, HST.out _ h2⟩, HB4.out.trans (Z6.out.2.2.mono HB4.out.size)⟩
            have HBT := Lib.hid hbt
            have htv : Hid (BestV W6 w.heap.size (.slice (some ac) (d + 1) cc) (some (nm :: p.take d))) := by
              refine ⟨ac, cc, ?_, Z6.out.1⟩
              rw [List.length_cons, P5.out.2.2.1]
            clear hbt
            cases b with
            | none =>
              have e : u4 = .slice none 0 0 := HI.out.bv
              subst e
              have HBn : Hid (Best E (fun a c => ((∃ i, i < k ∧ rn[i]? = some a) ∨ (a = nm ∧ ∃ i, i < j ∧ r[i]? = some c)) ∨ (a = nm ∧ c = mv)) (some (nm :: p.take d))) := HI.out.be.take P5.out.2.2.2 (fun b' h => by cases h)
              go_wp2_with fail
              go_roundg (r.length - j)
              case measure => omega
              case rel =>
                obtain ⟨h1, h2⟩ := HBT.out _ _ htv.out HBn.out
                exact ⟨j + 1, _, by go_num, by omega, by omega, h1, h2⟩
            | some b =>
              obtain ⟨ab, cb, e, ho⟩ := HI.out.bv
              subst e
              have hkv : Hid (OwnS W6 w.heap.size (some ab) cb b) := OwnS.below ho Z6.out.2.2
              clear ho
              have hbe := Lib.hid HI.out.be
              clear HI
              rcases Nat.lt_trichotomy (d + 1) b.length with hlb | hlb | hlb
              · have HBn : Hid (Best E (fun a c => ((∃ i, i < k ∧ rn[i]? = some a) ∨ (a = nm ∧ ∃ i, i < j ∧ r[i]? = some c)) ∨ (a = nm ∧ c = mv)) (some (nm :: p.take d))) := hbe.out.take P5.out.2.2.2 (fun b' h => by
                  injection h with h
                  subst h
                  exact .inl (by rw [List.length_cons, P5.out.2.2.1]; exact hlb))
                go_wp2_with fail
                go_roundg (r.length - j)
                case measure => omega
                case rel =>
                  obtain ⟨h1, h2⟩ := HBT.out _ _ htv.out HBn.out
                  exact ⟨j + 1, _, by go_num, by omega, by omega, h1, h2⟩
              · have hbl : b.length = d + 1 := hlb.symm
                clear hlb
                have HCm : Hid (Calls Try.prog 48 #[.slice (some ac) (d + 1) cc, .slice (some ab) (d + 1) cb] W6 fun e w' => e = .returned (.int .i64 (cmpL (nm :: p.take d) b)) ∧ w' = W6) := by
                  have := Compare_any (w := W6) (some ac) (some ab) cc cb (nm :: p.take d) b Z6.out.1.reads hkv.out.reads (by rw [List.length_cons, P5.out.2.2.1, hbl])
                  rw [List.length_cons, P5.out.2.2.1] at this
                  exact this
                obtain ⟨cv, hcv⟩ : ∃ cv, cv = cmpL (nm :: p.take d) b := ⟨_, rfl⟩
                rw [← hcv] at HCm
                have hcn : Hid (cv < 0 ↔ lexlt (nm :: p.take d) b) := by rw [hcv]; exact cmpL_neg
                clear hcv
                by_cases hneg : cv < 0
                · have HBn : Hid (Best E (fun a c => ((∃ i, i < k ∧ rn[i]? = some a) ∨ (a = nm ∧ ∃ i, i < j ∧ r[i]? = some c)) ∨ (a = nm ∧ c = mv)) (some (nm :: p.take d))) := hbe.out.take P5.out.2.2.2 (fun b' h => by
                    injection h with h
                    subst h
                    exact .inr ⟨by rw [List.length_cons, P5.out.2.2.1, hbl], hcn.out.1 hneg⟩)
                  go_wp2_with fail
                  refine HCm.out.mono ?_
                  rintro e W6' ⟨rfl, hw⟩
                  obtain rfl : W6 = W6' := hw.symm
                  go_wp2_with fail
                  go_roundg (r.length - j)
                  case measure => omega
                  case rel =>
                    obtain ⟨h1, h2⟩ := HBT.out _ _ htv.out HBn.out
                    exact ⟨j + 1, _, by go_num, by omega, by omega, h1, h2⟩
                · have HBn : Hid (Best E (fun a c => ((∃ i, i < k ∧ rn[i]? = some a) ∨ (a = nm ∧ ∃ i, i < j ∧ r[i]? = some c)) ∨ (a = nm ∧ c = mv)) (some b)) := hbe.out.keep P5.out.2.2.2 (by
                    rintro (h | ⟨_, h⟩)
                    · rw [List.length_cons, P5.out.2.2.1, hbl] at h
                      omega
                    · exact hneg (hcn.out.2 h))
                  go_wp2_with fail
                  refine HCm.out.mono ?_
                  rintro e W6' ⟨rfl, hw⟩
                  obtain rfl : W6 = W6' := hw.symm
                  go_wp2_with fail
                  go_roundg (r.length - j)
                  case measure => omega
                  case rel =>
                    obtain ⟨h1, h2⟩ := HBT.out (.slice (some ab) b.length cb) (some b) ⟨ab, cb, rfl, hkv.out⟩ HBn.out
                    rw [hbl] at h1
                    exact ⟨j + 1, _, by go_num, by omega, by omega, h1, h2⟩
              · have HBn : Hid (Best E (fun a c => ((∃ i, i < k ∧ rn[i]? = some a) ∨ (a = nm ∧ ∃ i, i < j ∧ r[i]? = some c)) ∨ (a = nm ∧ c = mv)) (some b)) := hbe.out.keep P5.out.2.2.2 (by
                  rintro (h | ⟨h, _⟩)
                  · rw [List.length_cons, P5.out.2.2.1] at h
                    omega
                  · rw [List.length_cons, P5.out.2.2.1] at h
                    omega)
                have hne : ((d : Int) + 1 == (b.length : Int)) = false := by
                  simp only [beq_eq_false_iff_ne, ne_eq]
                  omega
                go_wp2_with fail
                go_roundg (r.length - j)
                case measure => omega
                case rel =>
                  obtain ⟨h1, h2⟩ := HBT.out (.slice (some ab) b.length cb) (some b) ⟨ab, cb, rfl, hkv.out⟩ HBn.out
                  exact ⟨j + 1, _, by go_num, by omega, by omega, h1, h2⟩
          · have hnr : Hid (¬ Reach E mv nm) := fun hr => by
              obtain ⟨⟨bo, bi, lo, li, hGr⟩, hN⟩ := X.out
              have hh := hGr.inN _ _ hE.out
              exact hno ⟨hh.2, hh.1, hr⟩
            have P5 := Lib.hid hb5
            clear hb5 hno HWy
            go_wp2_with fail
            go_roundg (r.length - j)
            case measure => omega
            case rel =>
              exact ⟨j + 1, b, by go_num, by omega, by omega, ⟨HI.out.bl.trans (P5.out.mono HI.out.bl.size), HI.out.bv.below P5.out, HST.out _ (HI.out.be.skip hnr.out)⟩, HB4.out.trans (P5.out.mono HB4.out.size)⟩
        · go_wp2_with fail
          go_roundg (rn.length - k)
          case measure => omega
          case rel =>
            refine ⟨k + 1, b, by go_num, by omega, by omega, ⟨HI.out.bl, HI.out.bv, HI.out.be.congr fun x y hE h => ?_⟩, HB3.out.trans (HB4.out.mono HB3.out.size)⟩
            obtain ⟨i, hi, hx⟩ := h
            by_cases e : i = k
            · subst e
              rw [HRK.out] at hx
              injection hx with hx
              subst hx
              obtain ⟨i2, hi2⟩ := List.getElem?_of_mem ((Z.out.1 y).2 hE)
              have := (List.getElem?_eq_some_iff.1 hi2).1
              exact .inr ⟨rfl, i2, by omega, hi2⟩
            · exact .inl ⟨i, by omega, hx⟩
    · have hall : Best E (fun _ _ => True) b := HA.out.be.congr fun x y hE _ => by
        obtain ⟨⟨bo, bi, lo, li, hGr⟩, hN⟩ := X.out
        obtain ⟨i, hi⟩ := List.getElem?_of_mem ((Y.out.1 x).2 (hGr.inN _ _ hE).1)
        have := (List.getElem?_eq_some_iff.1 hi).1
        exact ⟨i, by omega, hi⟩
      have hbv := HA.out.bv
      have HBL := Lib.hid HA.out.bl
      have HAL := Lib.hid hall
      clear hall HA
      cases b with
      | none =>
        have e : u4 = .slice none 0 0 := hbv
        subst e
        clear hbv
        go_wp2_with fail
        go_ret2
        exact ⟨HBL.out, .inr ⟨rfl, fun x y hE => HAL.out x y trivial hE⟩⟩
      | some b =>
        obtain ⟨ap, c, e, ho⟩ := hbv
        subst e
        have HO := Lib.hid ho
        clear ho
        go_wp2_with fail
        go_ret2
        exact ⟨HBL.out, .inl ⟨some ap, c, b, rfl, ⟨HAL.out.1, fun x y hE hr => HAL.out.2 x y trivial hE hr⟩, HO.out⟩⟩
end Go.Proofs.Ytlccejbomgknkaa
