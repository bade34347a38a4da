/- far: how many edges lead from each name to one, at least. -/
import Derived.Test.YtlccejbomgknkaaGOwn
import Derived.Test.YtlccejbomgknkaaGDist
namespace Go.Proofs.Ytlccejbomgknkaa
set_option linter.unusedVariables false
set_option linter.unusedSimpArgs false
open Go.RowKit Go.Maps Go.Proofs.YtlccejbomgknkaaW.PrintWords Go.Proofs.YtlccejbomgknkaaW.PrintLast

section
variable {P : Program} (w : World) {ops : Array Oper} {rest : List Oper} {o : Oper} {a : Act} {Q : Exit → Act → World → Prop}
/-- An entry of a map that is written out. -/
theorem wpList_insertAt (hg : o.guard = none) (m x v : Operand) (t : TypeId) (hop : o.op = Op.insert t m x v) (K E : TypeId) (ht : P.underlying t = some (.map K E)) (hK : P.underlying K = some .string)
    (b : Nat) (l : Ents) (h : MapAt w b l) (hm : a.eval m = .map (some b)) (k : ByteArray) (hx : a.eval x = .string k) (hk : k.size ≤ maxLen) (u : Value) (hv : a.eval v = u)
    (hN : ∀ w', MapAt w' b (putE l k u) → w.grownBy w' (some b) → w'.heap.size = w.heap.size → wpList P ops Q rest (a.put o.dst undef) w') : wpList P ops Q (o :: rest) a w := by
  refine wpList_plain hg fun K' hK' => ?_
  obtain ⟨w', hrun, r1, r2, r3⟩ := h.update ht hK k hk u
  unfold Oper.wp
  simp [execOp, hop, hm, hx, hv, hrun, Result.andThen]
  exact hK' _ _ (hN w' r1 r2 r3)
end

/-- A map from texts to numbers. -/
def encF (F : List (ByteArray × Nat)) : Ents := F.map (fun p => (p.1, .int .i64 (p.2 : Nat)))
theorem fst_encF (F : List (ByteArray × Nat)) : (encF F).map Prod.fst = F.map Prod.fst := by unfold encF; rw [List.map_map]; rfl
theorem getE_encF_yes {F : List (ByteArray × Nat)} {x : ByteArray} {d : Nat} (hn : (F.map Prod.fst).Nodup) (h : (x, d) ∈ F) : getE (encF F) x = some (.int .i64 (d : Nat)) :=
  (getE_mem (by rw [fst_encF]; exact hn)).2 (List.mem_map.2 ⟨_, h, rfl⟩)
theorem getE_encF_no {F : List (ByteArray × Nat)} {x : ByteArray} (h : ∀ d, (x, d) ∉ F) : getE (encF F) x = none := getE_isNone.2 (by
  rw [fst_encF]
  intro hm
  obtain ⟨p, hp, rfl⟩ := List.mem_map.1 hm
  exact h p.2 hp)
theorem putE_encF_new {F : List (ByteArray × Nat)} {x : ByteArray} {d : Nat} (h : ∀ d, (x, d) ∉ F) : putE (encF F) x (.int .i64 (d : Nat)) = encF (F ++ [(x, d)]) := by
  rw [putE_new]
  · simp [encF]
  · intro p hp e
    obtain ⟨q, hq, rfl⟩ := List.mem_map.1 hp
    exact h q.2 (by rw [← e]; exact hq)
theorem MapAt.keysF_nodup {w : World} {b : Nat} {F : List (ByteArray × Nat)} (h : MapAt w b (encF F)) : (F.map Prod.fst).Nodup := by
  have := h.nodup
  rwa [fst_encF] at this

/-- What far hands back. -/
def Fared (w : World) (N : List ByteArray) (E : Rel) (to_ : ByteArray) (e : Ending) (w' : World) : Prop :=
  ∃ (b : Nat) (F : List (ByteArray × Nat)), e = .returned (.map (some b)) ∧ MapAt w' b (encF F) ∧ (∀ x d, (x, d) ∈ F ↔ Dist E x to_ d) ∧ F.length ≤ N.length ∧ Below w.heap.size w w'

/-- At a wave's begin. -/
structure FO (w wr : World) (N : List ByteArray) (E : Rel) (to_ : ByteArray) (n : Nat) (F : List (ByteArray × Nat)) (A : Option Addr) (c : Nat) (wave : List ByteArray) : Prop where
  mp : MapAt wr w.heap.size (encF F)
  wv : OwnS wr w.heap.size A c wave
  bf : Bfs E to_ n F wave
  bl : Below w.heap.size w wr
  nF : n ≤ F.length
  FN : F.length ≤ N.length
  wl : wave.length ≤ F.length
/-- In the midst of a wave; W1: the world at its begin. -/
structure FM (w W1 wr : World) (E : Rel) (to_ : ByteArray) (n : Nat) (F : List (ByteArray × Nat)) (wave : List ByteArray) (P : ByteArray → ByteArray → Prop) (F1 : List (ByteArray × Nat)) (A : Option Addr) (c : Nat) (nxt : List ByteArray) : Prop where
  mp : MapAt wr w.heap.size (encF F1)
  nx : OwnS wr W1.heap.size A c nxt
  bf : BfsMid E to_ n F wave P F1 nxt
  gr : W1.grownBy wr (some w.heap.size)
  ln : F1.length = F.length + nxt.length

/-- In the midst of the range over what asks the name cur. -/
structure FI (w W1 wr : World) (E : Rel) (to_ : ByteArray) (n : Nat) (F : List (ByteArray × Nat)) (wave : List ByteArray) (k : Nat) (cur : ByteArray) (b2 r : Nat) (s : List ByteArray) (left : Ents) (F1 : List (ByteArray × Nat)) (A : Option Addr) (c : Nat) (nxt : List ByteArray) : Prop where
  fm : FM w W1 wr E to_ n F wave (fun x y => (E x y ∧ y ∈ wave.take k) ∨ (y = cur ∧ x ∈ s ∧ (x, Value.bool true) ∉ left)) F1 A c nxt
  it : IterAt wr b2 r (encS s) left

theorem FM.le {w W1 wr : World} {N : List ByteArray} {E : Rel} {to_ : ByteArray} {n : Nat} {F : List (ByteArray × Nat)} {wave : List ByteArray} {P : ByteArray → ByteArray → Prop} {F1 : List (ByteArray × Nat)} {A : Option Addr} {c : Nat} {nxt : List ByteArray}
    (h : FM w W1 wr E to_ n F wave P F1 A c nxt) (hN : ∀ x d, Dist E x to_ d → x ∈ N) : F1.length ≤ N.length := by
  have := nodup_len (N := N) h.mp.keysF_nodup (fun x hx => by
    obtain ⟨p, hp, rfl⟩ := List.mem_map.1 hx
    rcases (h.bf.fr p.1 p.2).1 hp with h1 | ⟨_, h1⟩
    · exact hN _ _ ((h.bf.st.far _ _).1 h1).1
    · exact hN _ _ ((h.bf.nx _).1 h1).1)
  simpa using this

theorem dist_inN {N : List ByteArray} {E : Rel} {to_ : ByteArray} (hE : ∀ x y, E x y → x ∈ N ∧ y ∈ N) (hto : to_ ∈ N) {x : ByteArray} {d : Nat} (h : Dist E x to_ d) : x ∈ N := by
  cases d with
  | zero => rw [dist_zero.1 h]; exact hto
  | succ d => obtain ⟨z, h1, _⟩ := dist_next h; exact (hE _ _ h1).1

set_option maxRecDepth 100000 in
set_option maxHeartbeats 8000000 in
theorem far_any {w : World} {B g : Nat} {N : List ByteArray} {E : Rel} (hG : GraphAt w B g N E) (hN : N.length ≤ 1000000) (to_ : ByteArray) (hto : to_ ∈ N) :
    Calls Try.prog 40 #[.pointer (some ⟨g, 0, none⟩), .string to_] w (Fared w N E to_) := by
  have hmm := @run_makeMap Try.prog
  have hsz := hG.size_le hto
  obtain ⟨bo, bi, lo, li, hGr⟩ := hG
  have X := Lib.hid (And.intro hGr (And.intro hN hto))
  clear hGr hN hto
  go_enter Try.func40, Try.ntmps40
  go_wp2
  go_step3
  go_wp2_with (refine wpList_insertAt _ rfl (.tmp 14) (.tmp 15) (.const (.int .i64 0)) 60 rfl 9 3 Try.underlying60 Try.underlying9 w.heap.size [] (MapAt.made w) rfl to_ rfl hsz (.int .i64 0) rfl ?_)
  intro w1 h1 g1 z1
  have h0 : FO w (w1.alloc (.cells #[.string to_] 9)) N E to_ 1 [(to_, 0)] (some ⟨w.heap.size + 1, 0, none⟩) 1 [to_] := by
    obtain ⟨hGr, hN, hto⟩ := X.out
    have hb1 : Below w.heap.size w w1 := ((Below.refl w.heap.size w).alloc (Nat.le_refl _) _).grown g1 (by simp) (fun j e => by injection e with e; omega)
    have h1' : MapAt w1 w.heap.size (encF [(to_, 0)]) := by
      rw [show putE [] to_ (.int .i64 0) = encF [(to_, 0)] from by simp [putE, encF]] at h1
      exact h1
    refine ⟨h1'.alloc _, ?_, bfs_start, hb1.alloc hb1.size _, by simp, ?_, by simp⟩
    · have := OwnS.one w1 w.heap.size hb1.size to_
      rw [z1] at this
      exact this
    · have := List.length_pos_of_mem hto
      simp only [List.length_singleton]
      omega
  have H0 := Lib.hid h0
  clear h0 h1 g1
  go_wp2_with fail
  go_step3
  go_wp2_with fail
  go_loopg [6, 7] (N.length + 1) (fun q v6 v7 wr => ∃ (A : Option Addr) (c : Nat) (wave : List ByteArray) (n : Nat) (F : List (ByteArray × Nat)), v6 = .slice A wave.length c ∧ v7 = .int .i64 n ∧ q + F.length = N.length + 2 ∧ Hid (FO w wr N E to_ n F A c wave))
  case atStart => exact ⟨_, 1, [to_], 1, [(to_, 0)], rfl, rfl, by simp, H0⟩
  case round =>
    obtain ⟨A, c, wave, n, F, rfl, rfl, hq, HA⟩ := hrel
    clear H0
    obtain ⟨W1, rfl⟩ : ∃ W1 : World, W1 = wr := ⟨_, rfl⟩
    obtain ⟨q0, rfl⟩ : ∃ q0 : Nat, q0 = gk := ⟨_, rfl⟩
    have hnb : n ≤ 1000000 := Nat.le_trans (Nat.le_trans HA.out.nF HA.out.FN) X.out.2.1
    have hwl : wave.length ≤ 1000000 := Nat.le_trans (Nat.le_trans HA.out.wl HA.out.FN) X.out.2.1
    have h0 : FM w W1 W1 E to_ n F wave (fun x y => E x y ∧ y ∈ wave.take 0) F none 0 [] :=
      ⟨HA.out.mp, OwnS.nil _ _, HA.out.bf.mid.congr (fun x y => by simp), World.grownBy.refl _ _, by simp⟩
    have H1 := Lib.hid h0
    clear h0
    go_wp2_with fail
    go_loopg [8, 23] (wave.length + 1) (fun q2 v8 v23 wr => ∃ (k : Nat) (A2 : Option Addr) (c2 : Nat) (F1 : List (ByteArray × Nat)) (nxt : List ByteArray), v23 = .int .i64 k ∧ k ≤ wave.length ∧ q2 + k = wave.length + 1 ∧ v8 = .slice A2 nxt.length c2 ∧ Hid (FM w W1 wr E to_ n F wave (fun x y => E x y ∧ y ∈ wave.take k) F1 A2 c2 nxt))
    case atStart => exact ⟨0, none, 0, F, [], rfl, by omega, by omega, rfl, H1⟩
    case round =>
      obtain ⟨k, A2, c2, F1, nxt, rfl, hk, hq2, rfl, HM⟩ := hrel
      clear H1
      by_cases hlt : k < wave.length
      · obtain ⟨hGr, hN, hto⟩ := X.out
        obtain ⟨hmp, hwv, hbf, hbl, hnF, hFN, hwlF⟩ := HA.out
        have hgr := HM.out.gr
        have hble : Below w.heap.size w wr := hbl.grown hgr hbl.size (fun j e => by injection e with e; omega)
        obtain ⟨ad, hA, hcell⟩ := Kd.at_string (OwnS.grown hwv hmp hgr).reads (k : Int) (by omega) (by omega)
        subst hA
        obtain ⟨cur, hcur⟩ : ∃ cur, cur = rdOf ByteArray.empty wave (k : Int) := ⟨_, rfl⟩
        rw [← hcur] at hcell
        simp only [Int.toNat_natCast] at hcell
        have hcw : cur ∈ wave := take_at hlt hcur
        have hcN : cur ∈ N := dist_inN hGr.inN hto ((hbf.wav cur).1 hcw)
        obtain ⟨b2, hb2, hget, s, hs, hsE⟩ := hGr.inOf hcN
        have c1 : wr.cell? ⟨g, 1, none⟩ = some (.map (some bi)) := block_of_cell (hble.block g (Array.getElem?_eq_some_iff.1 hGr.cells).1) hGr.cell1
        have hmi := hGr.mi.below hble hGr.mi.lt
        have hs' := hs.below hble hs.lt
        have hb2l := hs.lt
        have Y := Lib.hid (And.intro hcur (And.intro hcw (And.intro hget (And.intro hsE (And.intro hmi (And.intro hs' hb2l))))))
        clear hGr hN hto hmp hwv hbf hbl hnF hFN hwlF hgr hble hcur hcw hcN hb2 hget hsE hmi hs' hs hb2l
        go_wp2_with (first | (at_lookup; refine wpList_lookAt _ rfl (.tmp 30) (.tmp 31) 65 rfl 9 70 Try.underlying65 Try.underlying9 (.map none) zero70 bi (encM li) Y.out.2.2.2.2.1 rfl cur rfl (.map (some b2)) (by rw [Y.out.2.2.1]; rfl) ?_) | (at_range; refine wpList_rangeAt _ rfl (.tmp 32) 70 rfl 9 4 Try.underlying70 b2 (encS s) Y.out.2.2.2.2.2.1 rfl ?_))
        intro W3 hI g3 z3
        obtain ⟨r, hr⟩ : ∃ r, r = wr.heap.size := ⟨_, rfl⟩
        rw [← hr] at hI ⊢
        have hrW : W1.heap.size ≤ r := by rw [hr]; exact HM.out.gr.size
        have h0 : FI w W1 W3 E to_ n F wave k cur b2 r s (encS s) F1 A2 c2 nxt := by
          obtain ⟨m1, m2, m3, m4, m5⟩ := HM.out
          have hb3 : Below wr.heap.size wr W3 := ⟨g3.os, g3.tape, g3.output, g3.size, fun k hk => g3.block k hk (by simp)⟩
          refine ⟨⟨m1.below hb3 m1.lt, OwnS.below m2 hb3, m3.congr (fun x y => ⟨.inl, ?_⟩), m4.andThen (g3.but _) (fun j e => .inr e), m5⟩, hI⟩
          rintro (h | ⟨_, h1, h2⟩)
          · exact h
          · exact absurd (List.mem_map.2 ⟨x, h1, rfl⟩) h2
        have H2 := Lib.hid h0
        have HR := Lib.hid hrW
        clear h0 hI g3 z3 hr hrW c1 hcell
        obtain ⟨q1, rfl⟩ : ∃ q1 : Nat, q1 = gk := ⟨_, rfl⟩
        clear HM
        go_wp2_with fail
        go_loopg [8] (s.length + 1) (fun q3 v8 wr => ∃ (A2 : Option Addr) (c2 : Nat) (F1 : List (ByteArray × Nat)) (nxt : List ByteArray) (left : Ents), v8 = .slice A2 nxt.length c2 ∧ left.length < q3 ∧ Hid (FI w W1 wr E to_ n F wave k cur b2 r s left F1 A2 c2 nxt))
        case atStart => exact ⟨_, _, _, _, encS s, rfl, by simp [encS], H2⟩
        case round =>
          obtain ⟨A3, c3, F3, nx3, left, rfl, hq3, HI⟩ := hrel
          clear H2
          go_wp2_with (at_next; refine wpList_nextAt _ rfl (.tmp 33) rfl b2 r (encS s) left HI.out.it rfl ?_ ?_)
          · intro hl
            have HL := Lib.hid hl
            clear hl
            go_wp2_with fail
            go_roundg (wave.length - k)
            case measure => omega
            case rel =>
              obtain ⟨hcur, hcw, hget, hsE, _⟩ := Y.out
              obtain ⟨⟨m1, m2, m3, m4, m5⟩, hI⟩ := HI.out
              refine ⟨k + 1, A3, c3, F3, nx3, by go_num, by omega, by omega, rfl, ⟨m1, m2, m3.congr (fun x y => ?_), m4, m5⟩⟩
              rw [take_mem hlt hcur y, HL.out]
              constructor
              · rintro (h | ⟨rfl, h1, _⟩)
                · exact ⟨h.1, .inl h.2⟩
                · exact ⟨(hsE x).1 h1, .inr rfl⟩
              · rintro ⟨h, h1 | rfl⟩
                · exact .inl ⟨h, h1⟩
                · exact .inr ⟨rfl, (hsE x).2 h, by simp⟩
          · intro x v W4 hx hI hg hz hen
            obtain ⟨hcur, hcw, hget, hsE, hmi, hs', hb2l⟩ := Y.out
            obtain ⟨⟨m1, m2, m3, m4, m5⟩, hI0⟩ := HI.out
            obtain ⟨x', hxs, hke⟩ := List.mem_map.1 (hI0.sub hx)
            injection hke with e1 e2
            subst e1
            subst e2
            have hxE : E x' cur := (hsE x').1 hxs
            have hxz : x'.size ≤ maxLen := X.out.1.size_le (X.out.1.inN _ _ hxE).1
            have n1 : MapAt W4 w.heap.size (encF F3) := m1.step hI0 hg
            have n2 : OwnS W4 W1.heap.size A3 c3 nx3 := OwnS.step m2 hI0 hg
            have n4 : W1.grownBy W4 (some w.heap.size) := m4.andThen hg (fun j e => by injection e with e; exact .inl (by rw [← e]; exact HR.out))
            have hnd := n1.keysF_nodup
            have hnl : nx3.length ≤ 1000000 := by
              have h1 := HI.out.fm.le (fun x d h => dist_inN X.out.1.inN X.out.2.2 h)
              have h2 := X.out.2.1
              omega
            have hleft := length_delE_lt hx
            have hPx : ∀ a b, ((E a b ∧ b ∈ wave.take k) ∨ (b = cur ∧ a ∈ s ∧ (a, Value.bool true) ∉ left)) ∨ (a = x' ∧ b = cur) ↔ ((E a b ∧ b ∈ wave.take k) ∨ (b = cur ∧ a ∈ s ∧ (a, Value.bool true) ∉ delE left x')) := by
              intro a b
              rw [mem_delE]
              constructor
              · rintro ((h | ⟨h1, h2, h3⟩) | ⟨rfl, rfl⟩)
                · exact .inl h
                · exact .inr ⟨h1, h2, fun h => h3 h.1⟩
                · exact .inr ⟨rfl, hxs, fun h => h.2 rfl⟩
              · rintro (h | ⟨h1, h2, h3⟩)
                · exact .inl (.inl h)
                · by_cases e : a = x'
                  · exact .inr ⟨e, h1⟩
                  · exact .inl (.inr ⟨h1, h2, fun h => h3 ⟨h, e⟩⟩)
            have Z := Lib.hid (And.intro hcur (And.intro hcw (And.intro hxE (And.intro hI (And.intro n1 (And.intro n2 (And.intro n4 (And.intro m3 (And.intro m5 (And.intro hPx hleft))))))))))
            by_cases hin : ∃ d, (x', d) ∈ F3
            · obtain ⟨d, hd⟩ := hin
              have HV := Lib.hid (And.intro (getE_encF_yes hnd hd) hd)
              clear hcur hcw hget hsE hmi hs' hb2l m1 m2 m3 m4 m5 hI0 hxs hxE hxz n1 n2 n4 hnd hnl hx hI hg hz hleft hPx hd
              go_wp2_with (at_lookup; refine wpList_lookAtOk _ rfl (.tmp 39) (.tmp 40) 60 rfl 9 3 Try.underlying60 Try.underlying9 (.int .i64 0) zero3 w.heap.size (encF F3) Z.out.2.2.2.2.1 rfl x' rfl (.int .i64 (d : Nat)) true (by rw [HV.out.1]; rfl) (by rw [HV.out.1]; rfl) ?_)
              obtain ⟨hcur, hcw, hxE, hI, n1, n2, n4, m3, m5, hPx, hleft⟩ := Z.out
              go_roundg left.length
              case measure => omega
              case rel =>
                exact ⟨A3, c3, F3, nx3, delE left x', rfl, hleft, ⟨⟨n1, n2, (m3.skip hcw hxE HV.out.2).congr hPx, n4, m5⟩, hI⟩⟩
            · have hno : ∀ d, (x', d) ∉ F3 := fun d h => hin ⟨d, h⟩
              have HV := Lib.hid (And.intro (getE_encF_no hno) hno)
              clear hcur hcw hget hsE hmi hs' hb2l m1 m2 m3 m4 m5 hI0 hxs hxE n1 n2 n4 hnd hx hI hg hz hleft hPx hno hin
              go_wp2_with (first | (at_lookup; refine wpList_lookAtOk _ rfl (.tmp 39) (.tmp 40) 60 rfl 9 3 Try.underlying60 Try.underlying9 (.int .i64 0) zero3 w.heap.size (encF F3) Z.out.2.2.2.2.1 rfl x' rfl (.int .i64 0) false (by rw [HV.out.1]; rfl) (by rw [HV.out.1]; rfl) ?_) | (at_mapUpdate; refine wpList_putAt _ rfl (.tmp 46) (.tmp 47) (.tmp 48) 60 rfl 9 3 Try.underlying60 Try.underlying9 w.heap.size (encF F3) Z.out.2.2.2.2.1 rfl x' rfl hxz (.int .i64 (n : Nat)) rfl ?_))
              intro W5 h5 g5 z5
              obtain ⟨hcur, hcw, hxE, hI, n1, n2, n4, m3, m5, hPx, hleft⟩ := Z.out
              obtain ⟨hcur', hcw', hget, hsE, hmi, hs', hb2l⟩ := Y.out
              have k1 : MapAt W5 w.heap.size (encF (F3 ++ [(x', n)])) := by rw [← putE_encF_new HV.out.2]; exact h5
              have k2 : OwnS W5 W1.heap.size A3 c3 nx3 := OwnS.grown n2 n1 g5
              have k4 : W1.grownBy W5 (some w.heap.size) := n4.andThen g5 (fun j e => .inr e)
              have kI : IterAt W5 b2 r (encS s) (delE left x') := hI.put n1 (by omega) g5
              have ZZ := Lib.hid (And.intro k1 (And.intro k2 (And.intro k4 kI)))
              clear hcur hcw hxE hI n1 n2 n4 m3 m5 hPx hleft hcur' hcw' hget hsE hmi hs' hb2l k1 k2 k4 kI h5 g5 z5
              go_wp2_with (at_builtin; refine wpList_pushS rfl (.tmp 49) (.tmp 51) rfl W1.heap.size c3 A3 nx3 ZZ.out.2.1 rfl x' rfl (by omega) ZZ.out.2.2.1.size ?_)
              intro A6 c6 W6 h6 g6
              have Z6 := Lib.hid (And.intro h6 g6)
              clear h6 g6
              go_wp2_with fail
              obtain ⟨hcur, hcw, hxE, hI, n1, n2, n4, m3, m5, hPx, hleft⟩ := Z.out
              obtain ⟨k1, k2, k4, kI⟩ := ZZ.out
              obtain ⟨h6, g6⟩ := Z6.out
              go_roundg left.length
              case measure => omega
              case rel =>
                refine ⟨A6, c6, F3 ++ [(x', n)], nx3 ++ [x'], delE left x', by rw [List.length_append]; rfl, hleft, ⟨⟨k1.push k2 g6, h6, (m3.take hcw hxE HV.out.2).1.congr hPx, k4.andThen g6 (fun j e => .inl (OwnS.lt k2 e).1), ?_⟩, kI.push k2 g6⟩⟩
                rw [List.length_append, List.length_append, m5]
                simp only [List.length_singleton]
                omega
      · have hkl : k = wave.length := by omega
        subst hkl
        by_cases hz : nxt.length = 0
        · have hzb : ((nxt.length : Int) == 0) = true := by simp [hz]
          have HZ := Lib.hid hz
          clear hz
          go_wp2_with fail
          rw [Exit.noGoto_ret]
          go_ret
          have hn0 : nxt = [] := List.eq_nil_of_length_eq_zero HZ.out
          subst hn0
          have hth := HM.out.bf.through (fun x y hy hE => ⟨hE, by rw [List.take_length]; exact hy⟩)
          refine ⟨w.heap.size, F1, rfl, HM.out.mp, hth.done, ?_, HA.out.bl.grown HM.out.gr HA.out.bl.size (fun j e => by injection e with e; omega)⟩
          obtain ⟨hGr, hN, hto⟩ := X.out
          exact HM.out.le (fun x d h => dist_inN hGr.inN hto h)
        · have hzb : ((nxt.length : Int) == 0) = false := by simp; exact fun e => hz (by rw [e]; rfl)
          have HZ := Lib.hid hz
          clear hz
          go_wp2_with fail
          obtain ⟨hGr, hN, hto⟩ := X.out
          have hle := HM.out.le (fun x d h => dist_inN hGr.inN hto h)
          have hln := HM.out.ln
          have hz := HZ.out
          go_roundg (q0 - nxt.length)
          case measure => omega
          case rel =>
            have hth := HM.out.bf.through (fun x y hy hE => ⟨hE, by rw [List.take_length]; exact hy⟩)
            exact ⟨A2, c2, nxt, n + 1, F1, rfl, by go_num, by omega, ⟨HM.out.mp, own_weaken HM.out.nx HA.out.bl.size, hth, HA.out.bl.grown HM.out.gr HA.out.bl.size (fun j e => by injection e with e; omega), by have := HA.out.nF; omega, hle, by omega⟩⟩
end Go.Proofs.Ytlccejbomgknkaa
