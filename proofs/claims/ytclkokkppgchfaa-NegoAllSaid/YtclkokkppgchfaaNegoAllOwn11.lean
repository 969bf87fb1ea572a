/- A part of the proof: texts of this session, joined. -/
import Derived.Test.YtclkokkppgchfaaPart10
import Derived.Test.YtclkokkppgchfaaPart5
import Derived.Test.YtclkokkppgchfaaPart8
import Derived.Test.YtclkokkppgchfaaPart4
/- NegoOne: the walk. -/
namespace Go.Proofs.Ytclkokkppgchfaa
open Go.RowKit Go.Ng Go.Proofs.YtclkokkppgchfaaW.PrintLast
set_option linter.unusedSimpArgs false
set_option linter.unusedVariables false
/-- The beginning of a row. -/
theorem row_prefix {tag : Nat → Tag} {t : Tag} {w : World} {A : Option Addr} {n cap : Nat} {l : List Int} (h : Row tag t 3 1 w (.slice A n cap) n (ints l)) {i : Nat} (hi : i ≤ n) : Rd 1 w (.slice A i cap) i (ints (l.take i)) := by
  have hlen : l.length = n := by have := h.len; simpa [ints] using this
  have hrd := h.rd (ints_one l)
  refine ⟨by simp [ints]; omega, ints_one _, ?_⟩
  rcases hrd.form with ⟨hv, hn⟩ | ⟨b, off, cap', hv, h1, h2, h3⟩
  · injection hv with a1 a2 a3
    subst a1 a3
    have : i = 0 := by omega
    subst this
    exact .inl ⟨rfl, rfl⟩
  · injection hv with a1 a2 a3
    subst a1 a3
    refine .inr ⟨b, off, cap, rfl, by omega, h2, fun j u hu => h3 j u ?_⟩
    have hj : j < i := by
      have := (List.getElem?_eq_some_iff.1 hu).1
      simp [ints] at this; omega
    rw [ints, List.getElem?_map, List.getElem?_take, if_pos hj] at hu
    rw [ints, List.getElem?_map]; exact hu
theorem nodup_take {l : List Int} (h : l.Nodup) {i : Nat} {x : Int} (hx : l[i]? = some x) : x ∉ l.take i := by
  intro hm
  obtain ⟨j, hj⟩ := List.getElem?_of_mem hm
  rw [List.getElem?_take] at hj
  split at hj
  · rename_i hji
    obtain ⟨h1, h2⟩ := List.getElem?_eq_some_iff.1 hx
    obtain ⟨h3, h4⟩ := List.getElem?_eq_some_iff.1 hj
    have := (List.pairwise_iff_getElem.1 h) j i h3 h1 hji
    exact this (h4.trans h2.symm)
  · cases hj
theorem runG_same (g : G) : ∀ l : List OpM, (runG g l).n = g.n := by
  intro l
  induction l generalizing g with
  | nil => rfl
  | cons o l ih =>
    show (runG (doG g o).1 l).n = g.n
    rw [ih]
    have hL : ∀ i : Int, (doL g i).1.n = g.n := by
      intro i; unfold doL; split
      · rfl
      · split
        · exact (takeG_same (g := g) _).2.2.1
        · rfl
    unfold doG
    split
    · unfold doP; repeat' (first | rfl | split)
    · split
      · unfold doD; repeat' (first | rfl | split)
      · split
        · exact hL _
        · split
          · unfold doB; repeat' (first | rfl | split)
          · rfl
set_option maxRecDepth 100000 in
set_option maxHeartbeats 6400000 in
theorem negoOne_ok {tag : Nat → Tag} {w : World} {v : Value} {places : Int} {items : List Int} {l : List OpM} (h : WorldRd tag w v places items l) (hok : TagOk tag w) :
    Calls Try.prog 9 #[v] w fun e w' => e = .returned (.bool true) ∧ ∃ tag', Fr (fun t => 1 ≤ t.1) tag tag' w w' := by
  have HS := fun {tag : Nat → Tag} {w : World} => @sane_ok tag w 1
  obtain ⟨vi, vl, rfl, hi, hie, hl⟩ := h.form
  obtain ⟨IA, icap, rfl, q1, q2⟩ := hi.slice
  obtain ⟨LA, lcap, rfl, q3, q4⟩ := hl.slice
  unfold maxLen at q2
  have hFa : Fr (fun _ => False) tag tag w (w.alloc (.cells #[.int .i64 places, .slice IA items.length icap, .slice LA l.length lcap] 75)) := Fr.alloc hok _
  have HFa := Lib.hid hFa
  have HW := Lib.hid (h.fr hFa (fun t h => h.elim))
  have hnew : (tag w.heap.size).1 = 0 := hok.new
  clear h hi hie hl hFa
  by_cases hb : fewB items.length l = false ∨ validB places items = false
  · have HB := Lib.hid hb
    clear hb
    go_enter Try.func9, Try.ntmps9
    go_wp2_with (first
    | (
      go_at_call 16
      refine (HS HFa.out.dom (by omega)).mono ?_
      rintro e w1 ⟨rfl, T1, hF1, hok1⟩
      have k0 : w1.cell? ⟨w.heap.size, 0, none⟩ = some (.int .i64 places) := hF1.cell (by go_simp) (by simp only [hnew]; omega)
      have k1 : w1.cell? ⟨w.heap.size, 1, none⟩ = some (.slice IA items.length icap) := hF1.cell (by go_simp) (by simp only [hnew]; omega)
      have k2 : w1.cell? ⟨w.heap.size, 2, none⟩ = some (.slice LA l.length lcap) := hF1.cell (by go_simp) (by simp only [hnew]; omega)
      have HW1 := Lib.hid (HW.out.fr hF1 (fun t h => by omega))
      have HF1 := Lib.hid ((HFa.out.mono (S' := fun t => 1 ≤ t.1) (fun _ h => h.elim)).trans (hF1.mono (fun t h => by omega)))
      clear hF1)
    | (
      go_at_call 39
      refine (begun_no HW1.out HF1.out.dom HB.out).mono ?_
      rintro e w2 ⟨rfl, hF2⟩
      have HF2 := Lib.hid (HF1.out.trans (hF2.mono (fun _ h => h.elim)))
      clear hF2))
    go_ret
    exact ⟨rfl, T1, HF2.out⟩
  · simp only [not_or, Bool.not_eq_false] at hb
    obtain ⟨hb1, hb2⟩ := hb
    have HB1 := Lib.hid hb1
    have HB2 := Lib.hid hb2
    clear hb1 hb2
    go_enter Try.func9, Try.ntmps9
    go_wp2_with (first
    | (
      go_at_call 16
      refine (HS HFa.out.dom (by omega)).mono ?_
      rintro e w1 ⟨rfl, T1, hF1, hok1⟩
      have k0 : w1.cell? ⟨w.heap.size, 0, none⟩ = some (.int .i64 places) := hF1.cell (by go_simp) (by simp only [hnew]; omega)
      have k1 : w1.cell? ⟨w.heap.size, 1, none⟩ = some (.slice IA items.length icap) := hF1.cell (by go_simp) (by simp only [hnew]; omega)
      have k2 : w1.cell? ⟨w.heap.size, 2, none⟩ = some (.slice LA l.length lcap) := hF1.cell (by go_simp) (by simp only [hnew]; omega)
      have HT1 := Lib.hid (hF1.same w.heap.size (by simp))
      have HW1 := Lib.hid (HW.out.fr hF1 (fun t h => by omega))
      have HF1 := Lib.hid ((HFa.out.mono (S' := fun t => 1 ≤ t.1) (fun _ h => h.elim)).trans (hF1.mono (fun t h => by omega)))
      clear hF1)
    | (
      go_at_call 39
      refine (p_begun 100 HW1.out HF1.out.dom (by omega) HB1.out HB2.out).mono ?_
      rintro e w2 ⟨p, rfl, T2, hL2, hF2⟩
      have m1 : w2.cell? ⟨w.heap.size, 1, none⟩ = some (.slice IA items.length icap) := hF2.cell k1 (by simp only [HT1.out, hnew]; omega)
      have HL2 := Lib.hid hL2
      have HF2 := Lib.hid (HF1.out.trans (hF2.mono (fun t h => by omega)))
      clear hF2 hL2 k0 k1 k2))
    have hn : (runG (beginG places.toNat items) l).n = items.length := by rw [runG_same]; rfl
    generalize runG (beginG places.toNat items) l = g at HL2 hn
    have HN := Lib.hid hn
    clear hn
    go_loopw [26] (fun i wr => ∃ n : Nat, n ≤ items.length ∧ i = .int .i64 n ∧ ∃ Tr : Nat → Tag, Hid (LiveP Tr 100 wr p g 80) ∧ Hid (Fr (fun t => 1 ≤ t.1) tag Tr w wr)) (fun i _ => items.length - (intOf i).toNat)
    case atStart => exact ⟨0, Nat.zero_le _, rfl, T2, HL2, HF2⟩
    case round =>
      obtain ⟨n, hn, rfl, Tr, HLr, HFr⟩ := hrel
      by_cases hlt : n < items.length
      · have HJ : Hid (n < g.n) := Lib.hid (by rw [HN.out]; exact hlt)
        have HV : Hid ((g.items n).ver = ((g.items n).hist.length : Int)) := Lib.hid (HLr.out.good.inv.vh n)
        have HD := Lib.hid (HLr.out.good.inv.hnd n)
        have hhl : (g.items n).hist.length ≤ 80 := by have := hist_len HLr.out.good n; have := HLr.out.np; omega
        obtain ⟨hl, hhl0⟩ : ∃ x, x = (g.items n).hist := ⟨_, rfl⟩
        rw [← hhl0] at HV HD hhl
        have HH := Lib.hid hhl0
        clear hhl0
        go_wp2_with (first
        | (
          go_at_call 49
          refine (p_history (j := n) (300, 0, 0) HLr.out HJ.out (by decide)).mono ?_
          rintro e w3 ⟨v3, rfl, T3, hrow, hF3⟩
          rw [← HH.out] at hrow
          obtain ⟨A3, c3, rfl, z1, z2⟩ := hrow.form
          unfold maxLen at z2
          have HR3 := Lib.hid hrow
          have HL3 := Lib.hid (HLr.out.frF hF3)
          have HF3 := Lib.hid (HFr.out.trans (hF3.mono (fun _ h => h.elim)))
          clear hrow hF3)
        | (
          go_at_call 50
          refine (p_version (j := n) HL3.out HJ.out).mono ?_
          rw [HV.out]
          rintro e w4 ⟨rfl, hF4⟩
          have HR4 := Lib.hid (HR3.out.fr hF4 (fun x => x))
          have HL4 := Lib.hid (HL3.out.frF hF4)
          have HF4 := Lib.hid (HF3.out.trans (hF4.mono (fun _ h => h.elim)))
          clear hF4))
        go_loopw [55] (fun i wq => ∃ m : Nat, m ≤ hl.length ∧ i = .int .i64 m ∧ Hid (Fr (fun _ => False) T3 T3 w4 wq)) (fun i _ => hl.length - (intOf i).toNat)
        case atStart => exact ⟨0, Nat.zero_le _, rfl, Lib.hid (Fr.refl HF4.out.dom)⟩
        case round =>
          obtain ⟨m, hm, rfl, HFq⟩ := hrel
          by_cases hmt : m < hl.length
          · obtain ⟨x, hx⟩ : ∃ x, hl[m]? = some x := ⟨_, List.getElem?_eq_getElem hmt⟩
            have hr4 := HR4.out.fr HFq.out (fun x => x)
            obtain ⟨b, rfl, _, _, hcell⟩ := hr4.cell rfl (j := m) (by simpa [ints] using hmt)
            have e0 : wr.cell? ⟨b, m, none⟩ = some (.int .i64 x) := by rw [hcell, ints, List.getElem?_map, hx]; rfl
            have HPR := Lib.hid (row_prefix hr4 (i := m) (by omega))
            have hno : decide (x ∈ hl.take m) = false := decide_eq_false (nodup_take HD.out hx)
            have HNO := Lib.hid hno
            have i5 : (0 : Int) ≤ (m : Int) := by omega
            have i6 : (m : Int) < (hl.length : Int) := by omega
            have i7 : (m : Int) ≤ (c3 : Int) := by omega
            have htl : (hl.take m).length = m := by rw [List.length_take]; omega
            have HTL := Lib.hid htl
            have hc3 : ¬ c3 = m ∨ c3 = m := by omega
            clear hx hr4 hcell hno htl hc3
            go_wp2_with (
              go_at_call 51
              refine (containsN_ok (hl.take m) x wr (by rw [HTL.out]; exact HPR.out) (by rw [HTL.out]; omega)).mono ?_
              rw [HNO.out]
              rintro e w' ⟨rfl, hw⟩
              replace hw := hw.symm
              subst hw)
            go_roundw
            case rel => exact ⟨m + 1, by omega, by go_num, HFq⟩
            case measure => simp [intOf]; omega
          · have hmm : m = hl.length := by omega
            subst hmm
            go_wp2_with fail
            go_roundw
            case rel => exact ⟨n + 1, by omega, by go_num, T3, Lib.hid (HL4.out.frF HFq.out), Lib.hid (HF4.out.trans (HFq.out.mono (fun _ h => h.elim)))⟩
            case measure => simp [intOf]; omega
      · have hnn : n = items.length := by omega
        subst hnn
        go_wp2_with fail
        go_ret
        exact ⟨rfl, Tr, HFr.out⟩
end Go.Proofs.Ytclkokkppgchfaa

/- calm, versions, Proposals. -/
namespace Go.Proofs.Ytclkokkppgchfaa
open Go.RowKit Go.Ng Go.Proofs.YtclkokkppgchfaaW.PrintLast
set_option linter.unusedSimpArgs false
set_option linter.unusedVariables false
section
variable {tag : Nat → Tag} {w : World} {B p k : Nat} {g : G}
theorem calm_ok (choices : List Int) {v : Value} (L : LiveP tag B w p g k) (hk : k ≤ 150) (hr : Rd 1 w v choices.length (ints choices)) (he : Ext tag w v) (hc : choices.length ≤ 1000000) :
    Calls Try.prog 37 #[.pointer (some ⟨p, 0, none⟩), v] w fun e w' => e = .returned (.bool true) ∧ ∃ (m : Nat) (tag' : Nat → Tag), (calmN choices g m).1.fl = [] ∧ m ≤ W2.all g ∧ LiveP tag' B w' p (calmN choices g m).1 k ∧ Fr (fun t => B ≤ t.1 ∧ t.1 ≤ B + 33) tag tag' w w' := by
  have HC := Lib.hid (p_calm choices L hk hr he hc)
  clear L hr he
  go_enter Try.func37, Try.ntmps37
  go_wp2_with (first
  | (
    go_at_call 33
    refine HC.out.mono ?_
    rintro e w1 ⟨m, cv, rfl, hfl, hm, T1, hL1, _, hF1⟩
    have HL1 := Lib.hid hL1
    have HFL := Lib.hid hfl
    have HF1 := Lib.hid hF1
    clear hL1 hfl hF1)
  | (
    go_at_call 42
    refine (p_flight (B + 40, 3, 0) HL1.out hk).mono ?_
    rintro e w2 ⟨v2, rfl, T2, hrow, hF2⟩
    obtain ⟨A2, c2, h2, _, _⟩ := hrow.form
    rw [HFL.out] at h2
    simp only [List.length_nil] at h2
    subst h2
    have HL2 := Lib.hid (HL1.out.frF hF2)
    have HF2 := Lib.hid (HF1.out.trans (hF2.mono (fun _ h => h.elim)))
    clear hrow hF2))
  go_ret
  exact ⟨rfl, m, T2, HFL.out, hm, HL2.out, HF2.out⟩
set_option maxRecDepth 100000 in
set_option maxHeartbeats 3200000 in
theorem nproposals_ok {N : NetM} (r : Nat) (h : NRep tag B w N) (hok : TagOk tag w) (hr : r < B ∨ B + N.places.length < r) (hr0 : r ≠ 0) (hn : N.claims.length ≤ 1000) (hl : ∀ (i : Nat) (l : List Clm), N.claims[i]? = some l → l.length ≤ 1000) :
    Calls Try.prog 48 #[.pointer (some ⟨N.ptr, 0, none⟩)] w fun e w' => ∃ v vs, e = .returned v ∧ ∃ tag' : Nat → Tag, Row tag' (r, 0, 0) 34 1 w' v N.claims.length vs ∧ (∀ (i : Nat) (l : List Clm), N.claims[i]? = some l → ∃ u, vs[i]? = some u ∧ Rd 2 w' u l.length (claims l)) ∧ Fr (fun t => t.1 = r) tag tag' w w' := by
  obtain ⟨i0, hi, hz0, hz1, hz2⟩ := info_parts Try.info34
  obtain ⟨pv, sv, fv, xv, hv, yv, dv, hce, h2, h3, h4, ⟨cvs, h5, h6⟩, h7, h8⟩ := h.cells
  obtain ⟨CA, ccap, rfl, q1, q2⟩ := h5.form
  unfold maxLen at q2
  have c3 : w.cell? ⟨N.ptr, 3, none⟩ = some (.slice CA N.claims.length ccap) := cell_of hce 3
  have hcvl : cvs.length = N.claims.length := by have := h5.len; omega
  have H5 := Lib.hid h5
  have H6 := Lib.hid h6
  have HLN := Lib.hid hl
  have HCVL := Lib.hid hcvl
  have hB0 := h.b0
  clear h hce h2 h3 h4 h5 h6 h7 h8 hl hcvl
  go_enter Try.func48, Try.ntmps48
  go_wp2_with fail
  go_loopw [3, 13] (fun a i wr => ∃ n : Nat, n ≤ N.claims.length ∧ i = .int .i64 n ∧ ∃ (Tr : Nat → Tag) (vs : List Value), Hid (Row Tr (r, 0, 0) 34 1 wr a n vs) ∧
    Hid (∀ (i : Nat) (l : List Clm), i < n → N.claims[i]? = some l → ∃ u, vs[i]? = some u ∧ Row Tr (r, 1, (i : Int)) 69 2 wr u l.length (claims l)) ∧ Hid (Fr (fun t => t.1 = r) tag Tr w wr)) (fun _ i _ => N.claims.length - (intOf i).toNat)
  case atStart => exact ⟨0, Nat.zero_le _, rfl, tag, [], Lib.hid (Row.nil _ _ _ _ _), Lib.hid (fun i l h => by omega), Lib.hid (Fr.refl hok)⟩
  case round =>
    obtain ⟨n, hn', rfl, Tr, vs, HRo, HIn, HFr⟩ := hrel
    obtain ⟨RA, rcap, rfl, _, _⟩ := HRo.out.form
    by_cases hlt : n < N.claims.length
    · obtain ⟨l, hx⟩ : ∃ l, N.claims[n]? = some l := ⟨_, List.getElem?_eq_getElem hlt⟩
      obtain ⟨u, hu, hur⟩ := H6.out n l hx
      have h5r := H5.out.fr HFr.out (show ¬ (B, 5, (0 : Int)).1 = r by simp; omega)
      obtain ⟨cb, rfl, _, _, hcell⟩ := h5r.cell rfl (j := n) (by rw [HCVL.out]; exact hlt)
      obtain ⟨UA, ucap, rfl, _, _⟩ := hur.form
      have e0 : wr.cell? ⟨cb, n, none⟩ = some (.slice UA l.length ucap) := by rw [hcell]; exact hu
      have HUR := Lib.hid ((hur.fr HFr.out (show ¬ (B, 6, (n : Int)).1 = r by simp; omega)).rd (claims_one l))
      have hll := HLN.out n l hx
      have HX := Lib.hid hx
      have i5 : (0 : Int) ≤ (n : Int) := by omega
      have i6 : (n : Int) < (N.claims.length : Int) := by omega
      have hokr := HFr.out.dom
      clear hx hu hur h5r hcell
      go_wp2_with (first
      | (
        go_at_call 70
        refine (clone70_ok (r, 1, (n : Int)) l.length (claims l) wr HUR.out hokr (by omega)).mono ?_
        rintro e w1 ⟨v1, rfl, T1, hrow, hF1⟩
        obtain ⟨A1, c1, rfl, _, _⟩ := hrow.form
        have HV1 := Lib.hid hrow
        have HF1 := Lib.hid hF1
        have HR1 := Lib.hid (HRo.out.fr hF1 (fun x => x))
        clear hrow hF1)
      | (
        at_builtin
        refine append_list rfl (.tmp 17) (.tmp 20) 87 rfl (by rfl) (by rfl) (HR1.out.alloc _) (HF1.out.dom.alloc _) Try.underlying87 hi hz0 hz1 hz2 rfl (by decide) [.slice A1 l.length c1] rfl (news_at (Go.Ng.heap_alloc_at _ _)) (by simp [Value.oneCell']) (by decide) (by unfold maxLen; omega) (by omega) ?_
        intro g2 cap2 w2 T2 hrow hfr
        have HROW := Lib.hid hrow
        have HF2 := Lib.hid ((Fr.alloc HF1.out.dom (.cells #[.slice A1 l.length c1] 34)).trans hfr)
        clear hrow hfr))
      go_roundw
      case rel =>
        refine ⟨n + 1, by omega, by go_num, T2, vs ++ [.slice A1 l.length c1], HROW, Lib.hid (fun i l' hil hl' => ?_), Lib.hid ((HFr.out.trans (HF1.out.mono (fun _ h => h.elim))).trans (HF2.out.mono (fun t h => by rw [h])))⟩
        have hvl : vs.length = n := by have := HRo.out.len; omega
        by_cases e : i < n
        · obtain ⟨u, hu, hr'⟩ := HIn.out i l' e hl'
          exact ⟨u, by rw [List.getElem?_append_left (by omega)]; exact hu, (hr'.fr HF1.out (fun x => x)).fr HF2.out (by simp)⟩
        · have : i = n := by omega
          subst this
          rw [HX.out] at hl'
          injection hl' with hl'
          subst hl'
          exact ⟨.slice A1 l.length c1, by rw [List.getElem?_append_right (by omega), hvl]; simp, HV1.out.fr HF2.out (by simp)⟩
      case measure => simp [intOf]; omega
    · have hnn : n = N.claims.length := by omega
      subst hnn
      go_wp2_with fail
      go_ret
      exact ⟨_, vs, rfl, Tr, HRo.out, fun i l hl => by obtain ⟨u, h1, h2⟩ := HIn.out i l (List.getElem?_eq_some_iff.1 hl).1 hl; exact ⟨u, h1, h2.rd (claims_one l)⟩, HFr.out⟩
theorem p_proposals (r : Nat) (L : LiveP tag B w p g k) (hr : B + 32 < r) (hk : k ≤ 150) :
    Calls Try.prog 48 #[.pointer (some ⟨p, 0, none⟩)] w fun e w' => ∃ v vs, e = .returned v ∧ ∃ tag' : Nat → Tag, Row tag' (r, 0, 0) 34 1 w' v g.np vs ∧ (∀ i : Nat, i < g.np → ∃ u, vs[i]? = some u ∧ Rd 2 w' u (g.props i).claims.length (claims (g.props i).claims)) ∧ Fr (fun t => t.1 = r) tag tag' w w' := by
  obtain ⟨N, rfl, h⟩ := L.net
  have hp := h.abs.p32
  have hnp := h.np
  refine (nproposals_ok r h.rep h.ok (by rw [h.abs.plen]; omega) (by omega) (by rw [h.abs.clen]; omega) (fun i l hl => ?_)).mono ?_
  · have hi : i < g.np := by rw [← h.abs.clen]; exact (List.getElem?_eq_some_iff.1 hl).1
    rw [h.abs.claims i hi] at hl
    injection hl with hl
    have := h.good.inv.len i
    rw [← hl]; omega
  · rintro e w' ⟨v, vs, he, T, h1, h2, h3⟩
    rw [h.abs.clen] at h1
    exact ⟨v, vs, he, T, h1, fun i hi => h2 i _ (h.abs.claims i hi), h3⟩
end
/-- What deliveries alone make of a negotiation. -/
theorem calmN_good {choices : List Int} {g : G} (I : NGood g) : ∀ k, NGood (calmN choices g k).1 := by
  intro k
  induction k with
  | zero => exact I
  | succ k ih =>
    show NGood (doL (calmN choices g k).1 _).1
    unfold doL
    split
    · exact ih
    · split
      · rename_i m hm; exact ih.deliver hm
      · exact ih
theorem still_of {g : G} (h : g.fl = []) : Still g.has := fun k p j ⟨m, hm, _⟩ => by rw [h] at hm; cases hm
end Go.Proofs.Ytclkokkppgchfaa

/- NegoFree: the walk. -/
namespace Go.Proofs.Ytclkokkppgchfaa
open Go.RowKit Go.Ng Go.Proofs.YtclkokkppgchfaaW.PrintLast
set_option linter.unusedSimpArgs false
set_option linter.unusedVariables false
theorem doL_same (g : G) (i : Int) : (doL g i).1.n = g.n ∧ (doL g i).1.np = g.np ∧ (∀ p, ((doL g i).1.props p).claims = (g.props p).claims) := by
  unfold doL; split
  · exact ⟨rfl, rfl, fun _ => rfl⟩
  · split
    · have h := takeG_same (g := g) ‹_›; exact ⟨h.2.2.1, h.2.2.2.1, h.2.2.2.2.2.2⟩
    · exact ⟨rfl, rfl, fun _ => rfl⟩
theorem calmN_n (choices : List Int) (g : G) : ∀ k, (calmN choices g k).1.n = g.n ∧ (calmN choices g k).1.np = g.np ∧ (∀ p, ((calmN choices g k).1.props p).claims = (g.props p).claims)
  | 0 => ⟨rfl, rfl, fun _ => rfl⟩
  | k + 1 => by
    have h1 := calmN_n choices g k
    have h2 := doL_same (calmN choices g k).1 (pickC choices k (calmN choices g k).1.fl.length)
    exact ⟨h2.1.trans h1.1, h2.2.1.trans h1.2.1, fun p => (h2.2.2 p).trans (h1.2.2 p)⟩
set_option maxRecDepth 100000 in
set_option maxHeartbeats 6400000 in
theorem negoFree_ok {tag : Nat → Tag} {w : World} {v vc : Value} {places : Int} {items choices : List Int} {l : List OpM} (h : WorldRd tag w v places items l) (hc : Rd 1 w vc choices.length (ints choices)) (hce : Ext tag w vc) (hok : TagOk tag w) :
    Calls Try.prog 8 #[v, vc] w fun e w' => e = .returned (.bool true) ∧ ∃ tag', Fr (fun t => 1 ≤ t.1) tag tag' w w' := by
  have HS := fun {tag : Nat → Tag} {w : World} => @sane_ok tag w 1
  obtain ⟨vi, vl, rfl, hi, hie, hl⟩ := h.form
  obtain ⟨IA, icap, rfl, q1, q2⟩ := hi.slice
  obtain ⟨LA, lcap, rfl, q3, q4⟩ := hl.slice
  obtain ⟨CA, ccap, rfl, q5, q6⟩ := hc.slice
  unfold maxLen at q2 q6
  have hFa : Fr (fun _ => False) tag tag w (w.alloc (.cells #[.int .i64 places, .slice IA items.length icap, .slice LA l.length lcap] 75)) := Fr.alloc hok _
  have HFa := Lib.hid hFa
  have HW := Lib.hid (h.fr hFa (fun t h => h.elim))
  have HCR := Lib.hid (hc.frF hFa)
  have HCE := Lib.hid (hce.fr hFa)
  have hnew : (tag w.heap.size).1 = 0 := hok.new
  clear h hi hie hl hFa hc hce
  by_cases hb : fewB items.length l = false ∨ validB places items = false
  · have HB := Lib.hid hb
    clear hb
    go_enter Try.func8, Try.ntmps8
    go_wp2_with (first
    | (
      go_at_call 16
      refine (HS HFa.out.dom (by omega)).mono ?_
      rintro e w1 ⟨rfl, T1, hF1, hok1⟩
      have k0 : w1.cell? ⟨w.heap.size, 0, none⟩ = some (.int .i64 places) := hF1.cell (by go_simp) (by simp only [hnew]; omega)
      have k1 : w1.cell? ⟨w.heap.size, 1, none⟩ = some (.slice IA items.length icap) := hF1.cell (by go_simp) (by simp only [hnew]; omega)
      have k2 : w1.cell? ⟨w.heap.size, 2, none⟩ = some (.slice LA l.length lcap) := hF1.cell (by go_simp) (by simp only [hnew]; omega)
      have HT1 := Lib.hid (hF1.same w.heap.size (by simp))
      have HW1 := Lib.hid (HW.out.fr hF1 (fun t h => by omega))
      have HCR1 := Lib.hid (HCR.out.ext HCE.out hF1 (fun t h => by omega))
      have HCE1 := Lib.hid (HCE.out.fr hF1)
      have HF1 := Lib.hid ((HFa.out.mono (S' := fun t => 1 ≤ t.1) (fun _ h => h.elim)).trans (hF1.mono (fun t h => by omega)))
      clear hF1)
    | (
      go_at_call 39
      refine (begun_no HW1.out HF1.out.dom HB.out).mono ?_
      rintro e w2 ⟨rfl, hF2⟩
      have HF2 := Lib.hid (HF1.out.trans (hF2.mono (fun _ h => h.elim)))
      clear hF2))
    go_ret
    exact ⟨rfl, T1, HF2.out⟩
  · simp only [not_or, Bool.not_eq_false] at hb
    obtain ⟨hb1, hb2⟩ := hb
    have HB1 := Lib.hid hb1
    have HB2 := Lib.hid hb2
    have hn0 : (runG (beginG places.toNat items) l).n = items.length := by rw [runG_same]; rfl
    clear hb1 hb2
    by_cases hmany : 2000 < choices.length
    · have i8 : decide ((2000 : Int) < (choices.length : Int)) = true := decide_eq_true (by omega)
      clear hmany
      go_enter Try.func8, Try.ntmps8
      go_wp2_with (first
      | (
      go_at_call 16
      refine (HS HFa.out.dom (by omega)).mono ?_
      rintro e w1 ⟨rfl, T1, hF1, hok1⟩
      have k0 : w1.cell? ⟨w.heap.size, 0, none⟩ = some (.int .i64 places) := hF1.cell (by go_simp) (by simp only [hnew]; omega)
      have k1 : w1.cell? ⟨w.heap.size, 1, none⟩ = some (.slice IA items.length icap) := hF1.cell (by go_simp) (by simp only [hnew]; omega)
      have k2 : w1.cell? ⟨w.heap.size, 2, none⟩ = some (.slice LA l.length lcap) := hF1.cell (by go_simp) (by simp only [hnew]; omega)
      have HT1 := Lib.hid (hF1.same w.heap.size (by simp))
      have HW1 := Lib.hid (HW.out.fr hF1 (fun t h => by omega))
      have HCR1 := Lib.hid (HCR.out.ext HCE.out hF1 (fun t h => by omega))
      have HCE1 := Lib.hid (HCE.out.fr hF1)
      have HF1 := Lib.hid ((HFa.out.mono (S' := fun t => 1 ≤ t.1) (fun _ h => h.elim)).trans (hF1.mono (fun t h => by omega)))
      clear hF1)
      | (
      go_at_call 39
      refine (p_begun 100 HW1.out HF1.out.dom (by omega) HB1.out HB2.out).mono ?_
      rintro e w2 ⟨p, rfl, T2, hL2, hF2⟩
      have m1 : w2.cell? ⟨w.heap.size, 1, none⟩ = some (.slice IA items.length icap) := hF2.cell k1 (by simp only [HT1.out, hnew]; omega)
      have HT2 := Lib.hid ((hF2.same w.heap.size (World.block_lt_of_cell? w1 _ k0)).trans HT1.out)
      have HL2 := Lib.hid hL2
      have HCR2 := Lib.hid (HCR1.out.ext HCE1.out hF2 (fun t h => by omega))
      have HCE2 := Lib.hid (HCE1.out.fr hF2)
      have HF2 := Lib.hid (HF1.out.trans (hF2.mono (fun t h => by omega)))
      clear hF2 hL2 k0 k1 k2))
      go_ret
      exact ⟨rfl, T2, HF2.out⟩
    · have i8 : decide ((2000 : Int) < (choices.length : Int)) = false := decide_eq_false (by omega)
      have hc2000 : choices.length ≤ 2000 := by omega
      clear hmany
      have HN0 := Lib.hid hn0
      clear hn0
      go_enter Try.func8, Try.ntmps8
      go_wp2_with (first
      | (
      go_at_call 16
      refine (HS HFa.out.dom (by omega)).mono ?_
      rintro e w1 ⟨rfl, T1, hF1, hok1⟩
      have k0 : w1.cell? ⟨w.heap.size, 0, none⟩ = some (.int .i64 places) := hF1.cell (by go_simp) (by simp only [hnew]; omega)
      have k1 : w1.cell? ⟨w.heap.size, 1, none⟩ = some (.slice IA items.length icap) := hF1.cell (by go_simp) (by simp only [hnew]; omega)
      have k2 : w1.cell? ⟨w.heap.size, 2, none⟩ = some (.slice LA l.length lcap) := hF1.cell (by go_simp) (by simp only [hnew]; omega)
      have HT1 := Lib.hid (hF1.same w.heap.size (by simp))
      have HW1 := Lib.hid (HW.out.fr hF1 (fun t h => by omega))
      have HCR1 := Lib.hid (HCR.out.ext HCE.out hF1 (fun t h => by omega))
      have HCE1 := Lib.hid (HCE.out.fr hF1)
      have HF1 := Lib.hid ((HFa.out.mono (S' := fun t => 1 ≤ t.1) (fun _ h => h.elim)).trans (hF1.mono (fun t h => by omega)))
      clear hF1)
      | (
      go_at_call 39
      refine (p_begun 100 HW1.out HF1.out.dom (by omega) HB1.out HB2.out).mono ?_
      rintro e w2 ⟨p, rfl, T2, hL2, hF2⟩
      have m1 : w2.cell? ⟨w.heap.size, 1, none⟩ = some (.slice IA items.length icap) := hF2.cell k1 (by simp only [HT1.out, hnew]; omega)
      have HT2 := Lib.hid ((hF2.same w.heap.size (World.block_lt_of_cell? w1 _ k0)).trans HT1.out)
      have HL2 := Lib.hid hL2
      have HCR2 := Lib.hid (HCR1.out.ext HCE1.out hF2 (fun t h => by omega))
      have HCE2 := Lib.hid (HCE1.out.fr hF2)
      have HF2 := Lib.hid (HF1.out.trans (hF2.mono (fun t h => by omega)))
      clear hF2 hL2 k0 k1 k2)
      | (
        go_at_call 37
        refine (calm_ok choices HL2.out (by decide) HCR2.out HCE2.out (by omega)).mono ?_
        rintro e w3 ⟨rfl, m, T3, hfl, hm, hL3, hF3⟩
        have m3 : w3.cell? ⟨w.heap.size, 1, none⟩ = some (.slice IA items.length icap) := hF3.cell m1 (by simp only [HT2.out, hnew]; omega)
        have HL3 := Lib.hid hL3
        have HFL := Lib.hid hfl
        have HF3 := Lib.hid (HF2.out.trans (hF3.mono (fun t h => by omega)))
        have HT3 := Lib.hid ((hF3.same w.heap.size (World.block_lt_of_cell? w2 _ m1)).trans HT2.out)
        clear hL3 hfl hF3 m1))
      have hgn : (calmN choices (runG (beginG places.toNat items) l) m).1.n = items.length := by rw [(calmN_n _ _ _).1]; exact HN0.out
      generalize (calmN choices (runG (beginG places.toNat items) l) m).1 = g at HL3 HFL hgn
      have HN := Lib.hid hgn
      have HST := Lib.hid (still_of HFL.out)
      clear hgn hm
      go_wp2_with fail
      go_loopw [40] (fun i wr => ∃ n : Nat, n ≤ items.length ∧ i = .int .i64 n ∧ ∃ Tr : Nat → Tag, Hid (LiveP Tr 100 wr p g 80) ∧ Hid (Fr (fun t => 1 ≤ t.1) tag Tr w wr)) (fun i _ => items.length - (intOf i).toNat)
      case atStart => exact ⟨0, Nat.zero_le _, rfl, T3, HL3, HF3⟩
      case round =>
        obtain ⟨n, hn, rfl, Tr, HLr, HFr⟩ := hrel
        by_cases hlt : n < items.length
        · have HJ : Hid (n < g.n) := Lib.hid (by rw [HN.out]; exact hlt)
          have HFREE := Lib.hid (still_free HLr.out.good.inv HST.out n)
          go_wp2_with (first
          | (
            go_at_call 41
            refine (p_holder (j := n) HLr.out HJ.out).mono ?_
            rw [show holdI (g.items n) = -1 from by rw [holdI, HFREE.out.1]]
            rintro e w4 ⟨rfl, hF4⟩
            have HL4 := Lib.hid (HLr.out.frF hF4)
            have HF4 := Lib.hid (HFr.out.trans (hF4.mono (fun _ h => h.elim)))
            clear hF4)
          | (
            go_at_call 40
            refine (p_waits (j := n) 300 (by omega) HL4.out HJ.out (by decide)).mono ?_
            rintro e w5 ⟨v5, rfl, T5, i5, hrow, hF5⟩
            obtain ⟨A5, c5, h5, _, _⟩ := hrow.form
            rw [HFREE.out.2] at h5
            simp only [List.length_nil] at h5
            subst h5
            have HL5 := Lib.hid (HL4.out.frF hF5)
            have HF5 := Lib.hid (HF4.out.trans (hF5.mono (fun _ h => h.elim)))
            clear hF5 hrow))
          go_roundw
          case rel => exact ⟨n + 1, by omega, by go_num, T5, HL5, HF5⟩
          case measure => simp [intOf]; omega
        · have hnn : n = items.length := by omega
          subst hnn
          go_wp2_with (
            go_at_call 48
            refine (p_proposals 400 HLr.out (by omega) (by decide)).mono ?_
            rintro e w6 ⟨v6, vs, rfl, T6, hrow, _, hF6⟩
            obtain ⟨A6, c6, rfl, _, _⟩ := hrow.form
            have HL6 := Lib.hid (HLr.out.fr hF6 (fun t h => by omega))
            have HF6 := Lib.hid (HFr.out.trans (hF6.mono (fun t h => by omega)))
            clear hrow hF6)
          have hnp6 : g.np ≤ 80 := HL6.out.np
          go_loopw [74] (fun i wr => ∃ n : Nat, n ≤ g.np ∧ i = .int .i64 n ∧ ∃ Tr : Nat → Tag, Hid (LiveP Tr 100 wr p g 80) ∧ Hid (Fr (fun t => 1 ≤ t.1) tag Tr w wr)) (fun i _ => g.np - (intOf i).toNat)
          case atStart => exact ⟨0, Nat.zero_le _, rfl, T6, HL6, HF6⟩
          case round =>
            obtain ⟨n, hn, rfl, Tr, HLr, HFr⟩ := hrel
            by_cases hlt : n < g.np
            · have HS1 : Hid (((g.props n).st == 1) = false) := Lib.hid (by rw [beq_eq_false_iff_ne]; exact still_closed HLr.out.good.inv HST.out n)
              go_wp2_with (
                go_at_call 38
                refine (p_status (n := n) HLr.out hlt).mono ?_
                rintro e w7 ⟨rfl, hF7⟩
                have hs1 := HS1.out
                have HL7 := Lib.hid (HLr.out.frF hF7)
                have HF7 := Lib.hid (HFr.out.trans (hF7.mono (fun _ h => h.elim)))
                clear hF7)
              go_roundw
              case rel => exact ⟨n + 1, by omega, by go_num, Tr, HL7, HF7⟩
              case measure => simp [intOf]; omega
            · have hnn : n = g.np := by omega
              subst hnn
              go_wp2_with fail
              go_ret
              exact ⟨rfl, Tr, HFr.out⟩
end Go.Proofs.Ytclkokkppgchfaa

/- Where a claim, and where a message, stands in a list. -/
namespace Go.Proofs.Ytclkokkppgchfaa
open Go.RowKit Go.Ng Go.Proofs.YtclkokkppgchfaaW.PrintLast
set_option linter.unusedSimpArgs false
set_option linter.unusedVariables false
set_option maxRecDepth 100000 in
set_option maxHeartbeats 1600000 in
theorem indexClaim_ok {tag : Nat → Tag} {v : Value} {w : World} (l : List Clm) (a b : Int) (hr : Rd 2 w v l.length (claims l)) (hok : TagOk tag w) (hl : l.length ≤ 1000000) :
    Calls Try.prog 103 #[v, .agg #[.int .i64 a, .int .i64 b]] w fun e w' => ∃ i : Int, e = .returned (.int .i64 i) ∧ ((0 ≤ i ∧ (⟨a, b⟩ : Clm) ∈ l) ∨ (i = -1 ∧ (⟨a, b⟩ : Clm) ∉ l)) ∧ Fr (fun _ => False) tag tag w w' := by
  obtain ⟨A, cap, rfl, h1, h2⟩ := hr.slice
  unfold maxLen at h2
  have HR := Lib.hid hr
  clear hr
  have hFa : Fr (fun _ => False) tag tag w (w.alloc (.cells #[.int .i64 a, .int .i64 b] 69)) := Fr.alloc hok _
  have HFa := Lib.hid hFa
  clear hFa
  go_enter Try.func103, Try.ntmps103
  go_wp2_with fail
  go_loopw [8] (fun i wr => ∃ n : Nat, n ≤ l.length ∧ i = .int .i64 n ∧ Hid (∀ i < n, ∀ x, l[i]? = some x → x ≠ ⟨a, b⟩) ∧ Hid (Fr (fun _ => False) tag tag (w.alloc (.cells #[.int .i64 a, .int .i64 b] 69)) wr)) (fun i _ => l.length - (intOf i).toNat)
  case atStart => exact ⟨0, Nat.zero_le _, rfl, Lib.hid (fun i h => by omega), Lib.hid (Fr.refl HFa.out.dom)⟩
  case round =>
    obtain ⟨n, hn, rfl, HNO, HFr⟩ := hrel
    by_cases hlt : n < l.length
    · obtain ⟨⟨xi, xv⟩, hx⟩ : ∃ c, l[n]? = some c := ⟨_, List.getElem?_eq_getElem hlt⟩
      obtain ⟨ab, aoff, acap', he, _, _, hac⟩ := Rd.elem (enc := Clm.cells) HR.out (fun _ => rfl) (by decide) hx
      injection he with he _ he2
      subst he he2
      have a0 : wr.cell? ⟨ab, aoff + n * 2, none⟩ = some (.int .i64 xi) := HFr.out.cellF (HFa.out.cellF (hac 0 _ rfl))
      have a1 : wr.cell? ⟨ab, aoff + n * 2 + 1, none⟩ = some (.int .i64 xv) := HFr.out.cellF (HFa.out.cellF (hac 1 _ rfl))
      have b0 : wr.cell? ⟨w.heap.size, 0, none⟩ = some (.int .i64 a) := HFr.out.cellF (by go_simp)
      have b1 : wr.cell? ⟨w.heap.size, 1, none⟩ = some (.int .i64 b) := HFr.out.cellF (by go_simp)
      have i1 : (0 : Int) ≤ (n : Int) := by omega
      have i2 : (n : Int) < (l.length : Int) := by omega
      have hokr := HFr.out.dom
      have HX := Lib.hid hx
      clear hac hx
      by_cases e0 : a = xi
      · by_cases e1 : b = xv
        · subst e0 e1
          go_wp2_with fail
          go_quiet (fail)
          go_wp2_with fail
          go_ret
          exact ⟨n, rfl, .inl ⟨by omega, List.mem_of_getElem? HX.out⟩, HFa.out.trans (HFr.out.trans ((Fr.refl hokr).dN _))⟩
        · have q0 : (a == xi) = true := by simpa using e0
          have q1 : (b == xv) = false := by simpa using e1
          have HE := Lib.hid e1
          clear e0 e1
          go_wp2_with fail
          go_quiet (fail)
          go_wp2_with fail
          go_roundw
          case rel => exact ⟨n + 1, by omega, by go_num, Lib.hid (fun i hi x hx e => by
            rcases Nat.lt_succ_iff_lt_or_eq.1 hi with h | h
            · exact HNO.out i h x hx e
            · subst h; rw [HX.out] at hx; injection hx with hx; rw [← hx] at e; injection e with e1 e2; exact HE.out e2.symm), Lib.hid (HFr.out.trans ((Fr.refl hokr).dN _))⟩
          case measure => simp [intOf]; omega
      · have q0 : (a == xi) = false := by simpa using e0
        have HE := Lib.hid e0
        clear e0
        go_wp2_with fail
        go_quiet (fail)
        go_wp2_with fail
        go_roundw
        case rel => exact ⟨n + 1, by omega, by go_num, Lib.hid (fun i hi x hx e => by
          rcases Nat.lt_succ_iff_lt_or_eq.1 hi with h | h
          · exact HNO.out i h x hx e
          · subst h; rw [HX.out] at hx; injection hx with hx; rw [← hx] at e; injection e with e1 e2; exact HE.out e1.symm), Lib.hid (HFr.out.trans ((Fr.refl hokr).dN _))⟩
        case measure => simp [intOf]; omega
    · have hnn : n = l.length := by omega
      subst hnn
      go_wp2_with fail
      go_ret
      refine ⟨-1, rfl, .inr ⟨rfl, fun h => ?_⟩, HFa.out.trans HFr.out⟩
      obtain ⟨i, hi⟩ := List.getElem?_of_mem h
      exact HNO.out i (List.getElem?_eq_some_iff.1 hi).1 _ hi rfl
set_option maxRecDepth 100000 in
set_option maxHeartbeats 1600000 in
theorem hasClaim_ok {tag : Nat → Tag} {v : Value} {w : World} (l : List Clm) (a b : Int) (hr : Rd 2 w v l.length (claims l)) (hok : TagOk tag w) (hl : l.length ≤ 1000000) :
    Calls Try.prog 59 #[v, .agg #[.int .i64 a, .int .i64 b]] w fun e w' => e = .returned (.bool (decide ((⟨a, b⟩ : Clm) ∈ l))) ∧ Fr (fun _ => False) tag tag w w' := by
  obtain ⟨A, cap, rfl, h1, h2⟩ := hr.slice
  have HR := Lib.hid hr
  clear hr
  have hFa : Fr (fun _ => False) tag tag w (w.alloc (.cells #[.int .i64 a, .int .i64 b] 69)) := Fr.alloc hok _
  have HFa := Lib.hid hFa
  clear hFa
  go_enter Try.func59, Try.ntmps59
  go_wp2_with (
    go_at_call 103
    refine (indexClaim_ok l a b (HR.out.frF HFa.out) HFa.out.dom hl).mono ?_
    rintro e w1 ⟨i, rfl, hi, hF1⟩
    have HI : Hid (decide (0 ≤ i) = decide ((⟨a, b⟩ : Clm) ∈ l)) := Lib.hid (by
      rcases hi with ⟨h1, h2⟩ | ⟨h1, h2⟩
      · rw [decide_eq_true h1, decide_eq_true h2]
      · rw [decide_eq_false (by omega), decide_eq_false h2])
    have HF1 := Lib.hid hF1
    clear hi hF1)
  go_ret
  exact ⟨by rw [← HI.out]; rfl, HFa.out.trans HF1.out⟩
set_option maxRecDepth 100000 in
set_option maxHeartbeats 3200000 in
theorem indexPost_ok {tag : Nat → Tag} {v : Value} {w : World} (l : List Post) (c : Post) (hr : Rd 6 w v l.length (posts l)) (hok : TagOk tag w) (hl : l.length ≤ 1000000) (hc : c ∈ l) :
    Calls Try.prog 104 #[v, .agg #[.int .i64 c.kind, .int .i64 c.src, .int .i64 c.dst, .int .i64 c.prop, .int .i64 c.item, .int .i64 c.version]] w fun e w' => ∃ i : Nat, e = .returned (.int .i64 i) ∧ l[i]? = some c ∧ Fr (fun _ => False) tag tag w w' := by
  obtain ⟨A, cap, rfl, h1, h2⟩ := hr.slice
  unfold maxLen at h2
  have HR := Lib.hid hr
  have HC := Lib.hid hc
  clear hr hc
  obtain ⟨a0, a1, a2, a3, a4, a5⟩ := c
  have hFa : Fr (fun _ => False) tag tag w (w.alloc (.cells #[.int .i64 a0, .int .i64 a1, .int .i64 a2, .int .i64 a3, .int .i64 a4, .int .i64 a5] 49)) := Fr.alloc hok _
  have HFa := Lib.hid hFa
  clear hFa
  go_enter Try.func104, Try.ntmps104
  go_wp2_with fail
  go_loopw [8] (fun i wr => ∃ n : Nat, n ≤ l.length ∧ i = .int .i64 n ∧ Hid (∀ i < n, ∀ x, l[i]? = some x → x ≠ ⟨a0, a1, a2, a3, a4, a5⟩) ∧ Hid (Fr (fun _ => False) tag tag (w.alloc (.cells #[.int .i64 a0, .int .i64 a1, .int .i64 a2, .int .i64 a3, .int .i64 a4, .int .i64 a5] 49)) wr)) (fun i _ => l.length - (intOf i).toNat)
  case atStart => exact ⟨0, Nat.zero_le _, rfl, Lib.hid (fun i h => by omega), Lib.hid (Fr.refl HFa.out.dom)⟩
  case round =>
    obtain ⟨n, hn, rfl, HNO, HFr⟩ := hrel
    by_cases hlt : n < l.length
    · obtain ⟨⟨x0, x1, x2, x3, x4, x5⟩, hx⟩ : ∃ c, l[n]? = some c := ⟨_, List.getElem?_eq_getElem hlt⟩
      obtain ⟨ab, aoff, acap', he, _, _, hac⟩ := Rd.elem (enc := Post.cells) HR.out (fun _ => rfl) (by decide) hx
      injection he with he _ he2
      subst he he2
      have c0 : wr.cell? ⟨ab, aoff + n * 6, none⟩ = some (.int .i64 x0) := HFr.out.cellF (HFa.out.cellF (hac 0 _ rfl))
      have c1 : wr.cell? ⟨ab, aoff + n * 6 + 1, none⟩ = some (.int .i64 x1) := HFr.out.cellF (HFa.out.cellF (hac 1 _ rfl))
      have c2 : wr.cell? ⟨ab, aoff + n * 6 + 2, none⟩ = some (.int .i64 x2) := HFr.out.cellF (HFa.out.cellF (hac 2 _ rfl))
      have c3 : wr.cell? ⟨ab, aoff + n * 6 + 3, none⟩ = some (.int .i64 x3) := HFr.out.cellF (HFa.out.cellF (hac 3 _ rfl))
      have c4 : wr.cell? ⟨ab, aoff + n * 6 + 4, none⟩ = some (.int .i64 x4) := HFr.out.cellF (HFa.out.cellF (hac 4 _ rfl))
      have c5 : wr.cell? ⟨ab, aoff + n * 6 + 5, none⟩ = some (.int .i64 x5) := HFr.out.cellF (HFa.out.cellF (hac 5 _ rfl))
      have b0 : wr.cell? ⟨w.heap.size, 0, none⟩ = some (.int .i64 a0) := HFr.out.cellF (by go_simp)
      have b1 : wr.cell? ⟨w.heap.size, 1, none⟩ = some (.int .i64 a1) := HFr.out.cellF (by go_simp)
      have b2 : wr.cell? ⟨w.heap.size, 2, none⟩ = some (.int .i64 a2) := HFr.out.cellF (by go_simp)
      have b3 : wr.cell? ⟨w.heap.size, 3, none⟩ = some (.int .i64 a3) := HFr.out.cellF (by go_simp)
      have b4 : wr.cell? ⟨w.heap.size, 4, none⟩ = some (.int .i64 a4) := HFr.out.cellF (by go_simp)
      have b5 : wr.cell? ⟨w.heap.size, 5, none⟩ = some (.int .i64 a5) := HFr.out.cellF (by go_simp)
      have i1 : (0 : Int) ≤ (n : Int) := by omega
      have i2 : (n : Int) < (l.length : Int) := by omega
      have hokr := HFr.out.dom
      have HX := Lib.hid hx
      clear hac hx
      by_cases e : a0 = x0 ∧ a1 = x1 ∧ a2 = x2 ∧ a3 = x3 ∧ a4 = x4 ∧ a5 = x5
      · obtain ⟨e0, e1, e2, e3, e4, e5⟩ := e
        subst e0 e1 e2 e3 e4 e5
        go_wp2_with fail
        go_quiet (fail)
        go_wp2_with fail
        go_ret
        exact ⟨n, rfl, HX.out, HFa.out.trans (HFr.out.trans ((Fr.refl hokr).dN _))⟩
      · have q : (a0 == x0) = false ∨ ((a0 == x0) = true ∧ (a1 == x1) = false) ∨ ((a0 == x0) = true ∧ (a1 == x1) = true ∧ (a2 == x2) = false) ∨ ((a0 == x0) = true ∧ (a1 == x1) = true ∧ (a2 == x2) = true ∧ (a3 == x3) = false) ∨ ((a0 == x0) = true ∧ (a1 == x1) = true ∧ (a2 == x2) = true ∧ (a3 == x3) = true ∧ (a4 == x4) = false) ∨ ((a0 == x0) = true ∧ (a1 == x1) = true ∧ (a2 == x2) = true ∧ (a3 == x3) = true ∧ (a4 == x4) = true ∧ (a5 == x5) = false) := by
          simp only [beq_iff_eq, beq_eq_false_iff_ne]
          by_cases e0 : a0 = x0 <;> by_cases e1 : a1 = x1 <;> by_cases e2 : a2 = x2 <;> by_cases e3 : a3 = x3 <;> by_cases e4 : a4 = x4 <;> simp_all
        have HE := Lib.hid e
        clear e
        rcases q with q0 | ⟨q0, q1⟩ | ⟨q0, q1, q2⟩ | ⟨q0, q1, q2, q3⟩ | ⟨q0, q1, q2, q3, q4⟩ | ⟨q0, q1, q2, q3, q4, q5⟩
        all_goals
          go_wp2_with fail
          go_quiet (fail)
          go_wp2_with fail
          go_roundw
          case rel => exact ⟨n + 1, by omega, by go_num, Lib.hid (fun i hi x hx e => by
            rcases Nat.lt_succ_iff_lt_or_eq.1 hi with h | h
            · exact HNO.out i h x hx e
            · subst h; rw [HX.out] at hx; injection hx with hx; rw [← hx] at e; injection e with e0 e1 e2 e3 e4 e5; exact HE.out ⟨e0.symm, e1.symm, e2.symm, e3.symm, e4.symm, e5.symm⟩), Lib.hid (HFr.out.trans ((Fr.refl hokr).dN _))⟩
          case measure => simp [intOf]; omega
    · have hnn : n = l.length := by omega
      subst hnn
      obtain ⟨i, hi⟩ := List.getElem?_of_mem HC.out
      exact absurd rfl (HNO.out i (List.getElem?_eq_some_iff.1 hi).1 _ hi)
end Go.Proofs.Ytclkokkppgchfaa

/- Why a proposal is refused; what deliveries leave as it is. -/
namespace Go.Ng
set_option linter.unusedVariables false
section
variable {g : G}
theorem takeG_hist (m : Post) (j : Int) : ((g.takeG m).1.items j).hist = (g.items j).hist ∨ ∃ q, (g.items j).hold = some q ∧ ((g.takeG m).1.items j).hist = (g.items j).hist ++ [q] := by
  have hs : ∀ (a : Int) (x : It), x.hist = (g.items a).hist → ((g.setI a x).items j).hist = (g.items j).hist := fun a x hx => by
    by_cases e : j = a
    · subst e; simp [G.setI, hx]
    · simp [G.setI, e]
  unfold G.takeG
  split
  · left; unfold G.grantedG; split
    · split <;> rfl
    · rfl
  · split
    · left; unfold G.refusedG; split <;> rfl
    · split
      · left; unfold G.askedG; split
        · rfl
        · split
          · exact hs _ _ rfl
          · split <;> exact hs _ _ rfl
      · split
        · unfold G.committedG; split
          · rename_i h
            by_cases e : j = m.item
            · subst e; right; exact ⟨_, h, by simp [G.setI]⟩
            · left; simp [G.setI, e]
          · exact .inl rfl
        · left; unfold G.freedG; split
          · split <;> exact hs _ _ rfl
          · exact hs _ _ rfl
theorem takeG_dec (m : Post) : (g.takeG m).1.dec = g.dec ∨ (g.takeG m).1.dec = g.dec ++ [m.prop] := by
  unfold G.takeG
  split
  · unfold G.grantedG; split
    · split
      · exact .inl rfl
      · exact .inr rfl
    · exact .inl rfl
  · left; split
    · unfold G.refusedG; split <;> rfl
    · split
      · unfold G.askedG; split
        · rfl
        · split
          · rfl
          · split <;> rfl
      · split
        · unfold G.committedG; split <;> rfl
        · unfold G.freedG; split
          · split <;> rfl
          · rfl
/-- The state of a proposal changes only if it is open, to done or to refused. -/
theorem takeG_st (m : Post) (p : Int) : ((g.takeG m).1.props p).st = (g.props p).st ∨ ((g.props p).st = 1 ∧ p = m.prop ∧ g.at_ p m.item ∧ (((g.takeG m).1.props p).st = 2 ∨ m.kind = 3 ∧ ((g.takeG m).1.props p).st = 3)) := by
  unfold G.takeG
  split
  · unfold G.grantedG; split
    · rename_i h
      split
      · left; by_cases e : p = m.prop
        · subst e; simp [G.setP]
        · simp [G.setP, e]
      · by_cases e : p = m.prop
        · subst e; right; exact ⟨h.1, rfl, h, .inl (by simp [G.setP])⟩
        · left; simp [G.setP, e]
    · exact .inl rfl
  · split
    · rename_i hk
      unfold G.refusedG; split
      · rename_i h
        by_cases e : p = m.prop
        · subst e; right; exact ⟨h.1, rfl, h, .inr ⟨hk, by simp [G.setP]⟩⟩
        · left; simp [G.setP, e]
      · exact .inl rfl
    · left; split
      · unfold G.askedG; split
        · rfl
        · split
          · rfl
          · split <;> rfl
      · split
        · unfold G.committedG; split <;> rfl
        · unfold G.freedG; split
          · split <;> rfl
          · rfl
/-- When a refusal is sent. -/
theorem takeG_no {m x : Post} (h : x ∈ (g.takeG m).2.1) (hx : x.kind = 3) :
    (m.kind = 1 ∧ x.prop = m.prop ∧ x.item = m.item ∧ m.version ≠ (g.items m.item).ver ∧ m.prop ∉ (g.items m.item).thr) ∨
    (x.item = m.item ∧ (g.items m.item).hold = some m.prop ∧ x.prop ∈ (g.items m.item).queue ∧ ((g.takeG m).1.items m.item).hist = (g.items m.item).hist ++ [m.prop]) := by
  unfold G.takeG at h ⊢
  split at h
  · rename_i hk
    unfold G.grantedG at h
    split at h
    · split at h
      · rw [List.mem_singleton.1 h] at hx; simp [G.mAsk] at hx
      · simp only [List.mem_map] at h; obtain ⟨c, _, rfl⟩ := h; simp [G.mCommit] at hx
    · simp at h
  · split at h
    · unfold G.refusedG at h
      split at h
      · simp only [List.mem_map] at h; obtain ⟨c, _, rfl⟩ := h; simp [G.mFree] at hx
      · simp at h
    · split at h
      · rename_i hk
        unfold G.askedG at h
        split at h
        · simp at h
        · rename_i h0
          simp only [not_or] at h0
          split at h
          · rename_i hv
            rw [List.mem_singleton.1 h]
            exact .inl ⟨hk, rfl, rfl, hv, h0.1⟩
          · split at h
            · simp at h
            · rw [List.mem_singleton.1 h] at hx; simp [G.mGrant] at hx
      · split at h
        · rename_i h2 h3 h1 h4
          unfold G.committedG at h
          split at h
          · rename_i hh
            simp only [List.mem_map] at h
            obtain ⟨q, hq, rfl⟩ := h
            refine .inr ⟨rfl, hh, hq, ?_⟩
            rw [if_neg h2, if_neg h3, if_neg h1, if_pos h4]
            unfold G.committedG
            rw [if_pos hh]
            simp [G.setI]
          · simp at h
        · unfold G.freedG at h
          split at h
          · split at h
            · simp at h
            · rw [List.mem_singleton.1 h] at hx; simp [G.mGrant] at hx
          · simp at h

/-- R p j h: the item j, moved by those of h, gives ground to refuse p. -/
structure Why (g : G) (R : Int → Int → List Int → Prop) : Prop where
  msg : ∀ p j, g.has 3 p j → R p j (g.items j).hist
  st : ∀ p, (g.props p).st = 3 → ∃ c ∈ (g.props p).claims, R p c.item (g.items c.item).hist
theorem at_mem {p j : Int} (h : g.at_ p j) : ∃ c ∈ (g.props p).claims, c.item = j := by
  obtain ⟨_, h⟩ := h
  rw [Option.map_eq_some_iff] at h
  obtain ⟨c, hc, rfl⟩ := h
  exact ⟨c, List.mem_of_getElem? hc, rfl⟩
theorem Why.deliver {R : Int → Int → List Int → Prop} {i : Nat} {m : Post} (K : Why g R) (I : NGood g) (hi : g.fl[i]? = some m)
    (mono : ∀ p j h q, R p j h → R p j (h ++ [q]))
    (ask : ∀ p (c : Clm), c ∈ (g.props p).claims → c.version ≠ (g.items c.item).ver → p ∉ (g.items c.item).thr → R p c.item (g.items c.item).hist)
    (queue : ∀ p q j, p ∈ (g.items j).queue → (g.items j).hold = some q → R p j ((g.items j).hist ++ [q])) : Why (g.deliverG i m) R := by
  have lift : ∀ p j, R p j (g.items j).hist → R p j ((g.takeG m).1.items j).hist := fun p j h => by
    rcases takeG_hist (g := g) m j with e | ⟨q, _, e⟩
    · rw [e]; exact h
    · rw [e]; exact mono _ _ _ _ h
  have hcl := (takeG_same (g := g) m).2.2.2.2.2.2
  have hm := List.mem_of_getElem? hi
  refine ⟨?_, ?_⟩
  · rintro p j ⟨x, hx, h1, rfl, rfl⟩
    rcases List.mem_append.1 hx with hx | hx
    · exact lift _ _ (K.msg _ _ ⟨x, List.mem_of_mem_eraseIdx hx, h1, rfl, rfl⟩)
    · rcases takeG_no hx h1 with ⟨hk, h2, h3, h4, h5⟩ | ⟨h2, h3, h4, h5⟩
      · have := ask m.prop ⟨m.item, m.version⟩ ((I.route m hm).ask hk) h4 h5
        rw [h2, h3]
        exact lift _ _ this
      · show R x.prop x.item ((g.takeG m).1.items x.item).hist
        rw [h2, h5]
        exact queue _ _ _ h4 h3
  · intro p hp
    change ((g.takeG m).1.props p).st = 3 at hp
    rcases takeG_st (g := g) m p with e | ⟨h1, rfl, h3, h4⟩
    · rw [e] at hp
      obtain ⟨c, hc, hR⟩ := K.st p hp
      exact ⟨c, by rw [← hcl p] at hc; exact hc, lift _ _ hR⟩
    · rcases h4 with h4 | ⟨hk, _⟩
      · omega
      · obtain ⟨c, hc, hci⟩ := at_mem h3
        refine ⟨c, by rw [← hcl m.prop] at hc; exact hc, lift _ _ ?_⟩
        rw [hci]
        exact K.msg _ _ ⟨m, hm, hk, rfl, rfl⟩

/-- Proposals that claim the present versions, on a net that was calm. -/
structure Ahead (g0 g : G) : Prop where
  good : NGood g
  why : Why g fun p j h => p < g0.np ∨ (g0.items j).hist.length < h.length
  ver : ∀ p : Int, g0.np ≤ p → ∀ c ∈ (g.props p).claims, c.version = (g0.items c.item).hist.length
  hist : ∀ j, (g0.items j).hist.length ≤ (g.items j).hist.length
  dec : g0.dec <+: g.dec
  old : ∀ p : Int, p < g0.np → (g.props p).claims = (g0.props p).claims ∧ (g.props p).st = (g0.props p).st
  st4 : ∀ p : Int, g0.np ≤ p → (g.props p).st ≠ 4
  np : g0.np ≤ g.np
  n : g.n = g0.n
  places : g.places = g0.places
theorem claims_rng (I : NGood g) {p : Int} {c : Clm} (hc : c ∈ (g.props p).claims) : 0 ≤ p ∧ p < g.np ∧ 0 ≤ c.item ∧ c.item < g.n := by
  obtain ⟨i, hi⟩ := cl_of_mem hc
  exact I.inv.rng _ _ _ hi
theorem st_rng (I : NGood g) {p : Int} (h : (g.props p).st ≠ 0) : 0 ≤ p ∧ p < g.np := by
  cases hc : (g.props p).claims with
  | nil => exact absurd ((I.inv.zero p).2 hc) h
  | cons c t => have := claims_rng I (p := p) (c := c) (by simp [hc]); omega
theorem Ahead.init {g0 : G} (I : NGood g0) (S : Still g0.has) : Ahead g0 g0 := by
  refine ⟨I, ⟨fun p j h => absurd h (S _ _ _), fun p hp => ?_⟩, fun p hp c hc => ?_, fun _ => Nat.le_refl _, List.prefix_refl _, fun _ _ => ⟨rfl, rfl⟩, fun p hp h4 => ?_, Nat.le_refl _, rfl, rfl⟩
  · have := st_rng I (p := p) (by omega)
    cases hc : (g0.props p).claims with
    | nil => have := (I.inv.zero p).2 hc; omega
    | cons c t => exact ⟨c, by simp, .inl this.2⟩
  · have := claims_rng I hc; omega
  · have := st_rng I (p := p) (by omega); omega
theorem Ahead.deliver {g0 : G} (A : Ahead g0 g) (I0 : NGood g0) (S0 : Still g0.has) {i : Nat} {m : Post} (hi : g.fl[i]? = some m) : Ahead g0 (g.deliverG i m) := by
  obtain ⟨_, _, e1, e2, e3, _, hcl⟩ := takeG_same (g := g) m
  refine ⟨A.good.deliver hi, A.why.deliver A.good hi ?_ ?_ ?_, fun p hp c hc => A.ver p hp c (by rw [← hcl p]; exact hc), fun j => ?_, ?_, fun p hp => ⟨(hcl p).trans (A.old p hp).1, ?_⟩, fun p hp => ?_, by have := A.np; show g0.np ≤ (g.takeG m).1.np; omega, e1.trans A.n, e3.trans A.places⟩
  · intro p j h q hR
    rcases hR with hR | hR
    · exact .inl hR
    · right; rw [List.length_append]; omega
  · intro p c hc hv _
    by_cases hp : p < g0.np
    · exact .inl hp
    · right
      have h1 := A.ver p (by omega) c hc
      have h2 := A.good.inv.vh c.item
      have h3 := A.hist c.item
      omega
  · intro p q j _ _
    right
    have := A.hist j
    rw [List.length_append]; simp; omega
  · have := A.hist j
    rcases takeG_hist (g := g) m j with e | ⟨q, _, e⟩
    · show _ ≤ ((g.takeG m).1.items j).hist.length; rw [e]; exact this
    · show _ ≤ ((g.takeG m).1.items j).hist.length; rw [e, List.length_append]; omega
  · rcases takeG_dec (g := g) m with e | e
    · show _ <+: (g.takeG m).1.dec; rw [e]; exact A.dec
    · show _ <+: (g.takeG m).1.dec; rw [e]; exact A.dec.trans (List.prefix_append _ _)
  · show ((g.takeG m).1.props p).st = _
    rcases takeG_st (g := g) m p with e | ⟨h1, _⟩
    · rw [e]; exact (A.old p hp).2
    · rw [(A.old p hp).2] at h1
      exact absurd h1 (still_closed I0.inv S0 p)
  · show ((g.takeG m).1.props p).st ≠ 4
    rcases takeG_st (g := g) m p with e | ⟨h1, _, _, h4⟩
    · rw [e]; exact A.st4 p hp
    · rcases h4 with h4 | ⟨_, h4⟩ <;> omega
theorem Ahead.propose {g0 : G} (A : Ahead g0 g) {place : Int} {l : List Clm} {c : Clm} (hl : ClaimsOk g.n l) (hc : l[0]? = some c) (hv : ∀ c ∈ l, c.version = (g0.items c.item).hist.length) : Ahead g0 (g.proposeG place l c) := by
  have hp : ∀ p, p ≠ (g.np : Int) → (g.proposeG place l c).props p = g.props p := fun p e => by simp [G.proposeG, G.setP, e]
  have hq : (g.proposeG place l c).props g.np = ⟨l, 1, 0⟩ := by simp [G.proposeG, G.setP]
  have hnp := A.np
  refine ⟨A.good.propose hl hc, ⟨?_, ?_⟩, ?_, A.hist, A.dec, ?_, ?_, ?_, A.n, A.places⟩
  · rintro p j ⟨x, hx, h1, h2, h3⟩
    rcases List.mem_append.1 hx with hx | hx
    · exact A.why.msg p j ⟨x, hx, h1, h2, h3⟩
    · rw [List.mem_singleton.1 hx] at h1; simp at h1
  · intro p h3
    by_cases e : p = (g.np : Int)
    · subst e; rw [hq] at h3; simp at h3
    · rw [hp p e] at h3 ⊢; exact A.why.st p h3
  · intro p h0 d hd
    by_cases e : p = (g.np : Int)
    · subst e; rw [hq] at hd; exact hv d hd
    · rw [hp p e] at hd; exact A.ver p h0 d hd
  · intro p h0
    rw [hp p (by omega)]; exact A.old p h0
  · intro p h0
    by_cases e : p = (g.np : Int)
    · subst e; rw [hq]; simp
    · rw [hp p e]; exact A.st4 p h0
  · show g0.np ≤ g.np + 1; omega
/-- Whoever moved an item since is one of the new ones, and is done. -/
theorem Ahead.moved {g0 : G} (A : Ahead g0 g) (I0 : NGood g0) (S0 : Still g0.has) (S : Still g.has) {j : Int} (h : (g0.items j).hist.length < (g.items j).hist.length) :
    ∃ q : Int, g0.np ≤ q ∧ q < g.np ∧ (g.props q).st = 2 ∧ q ∈ g.dec ∧ q ∉ g0.dec := by
  obtain ⟨r, hr⟩ := A.dec
  have h1 := still_hist A.good.inv S j
  have h0 := still_hist I0.inv S0 j
  have hold : g0.dec.filter (g.claimsI j) = g0.dec.filter (g0.claimsI j) := by
    apply List.filter_congr
    intro q hq
    have := (moment I0.inv hq).2.1
    rw [G.claimsI, G.claimsI, (A.old q this).1]
  rw [← hr, List.filter_append, hold, h0] at h1
  have : r.filter (g.claimsI j) ≠ [] := by
    intro e
    rw [e, List.append_nil] at h1
    rw [h1] at h; omega
  obtain ⟨q, hq⟩ := List.exists_mem_of_ne_nil _ this
  have hqr := (List.mem_filter.1 hq).1
  have hqd : q ∈ g.dec := by rw [← hr]; exact List.mem_append.2 (.inr hqr)
  have hst := (A.good.inv.e1 q).1 hqd
  have hnd := A.good.inv.e0
  rw [← hr] at hnd
  have hno : q ∉ g0.dec := fun hq0 => (List.nodup_append.1 hnd).2.2 q hq0 q hqr rfl
  have hrng := st_rng A.good (p := q) (by omega)
  refine ⟨q, ?_, hrng.2, hst, hqd, hno⟩
  by_cases e : q < g0.np
  · exact absurd ((I0.inv.e1 q).2 (by rw [← (A.old q e).2]; exact hst)) hno
  · omega
theorem Ahead.some {g0 : G} (A : Ahead g0 g) (I0 : NGood g0) (S0 : Still g0.has) (S : Still g.has) (h : g0.np < g.np) : g0.dec.length < g.dec.length := by
  have hd := A.dec
  obtain ⟨q, hq, hq0⟩ : ∃ q, q ∈ g.dec ∧ q ∉ g0.dec := by
    have hf := A.good.inv.full g0.np (by omega) (by omega)
    rcases A.good.inv.st0 g0.np with e | e | e | e | e
    · exact absurd ((A.good.inv.zero _).1 e) hf
    · exact absurd e (still_closed A.good.inv S _)
    · refine ⟨g0.np, (A.good.inv.e1 _).2 e, fun h' => ?_⟩
      have := (moment I0.inv h').2.1; omega
    · obtain ⟨c, hc, hR⟩ := A.why.st _ e
      rcases hR with hR | hR
      · omega
      · obtain ⟨q, _, _, _, h1, h2⟩ := A.moved I0 S0 S hR
        exact ⟨q, h1, h2⟩
    · exact absurd e (A.st4 _ (by omega))
  obtain ⟨r, hr⟩ := hd
  rw [← hr, List.length_append]
  have : r ≠ [] := by
    rintro rfl
    rw [List.append_nil] at hr
    rw [← hr] at hq
    exact hq0 hq
  have := List.length_pos_iff.2 this
  omega
theorem Ahead.refused {g0 : G} (A : Ahead g0 g) {p : Int} (hp : g0.np ≤ p) (h : (g.props p).st = 3) : ∃ c ∈ (g.props p).claims, c.version ≠ (g.items c.item).ver := by
  obtain ⟨c, hc, hR⟩ := A.why.st p h
  refine ⟨c, hc, ?_⟩
  rw [A.ver p hp c hc, A.good.inv.vh]
  rcases hR with hR | hR <;> omega
theorem Ahead.one {g0 : G} (A : Ahead g0 g) (I0 : NGood g0) (S0 : Still g0.has) (S : Still g.has) (h : g.np = g0.np + 1) : (g.props g0.np).st = 2 := by
  have hf := A.good.inv.full g0.np (by omega) (by omega)
  rcases A.good.inv.st0 g0.np with e | e | e | e | e
  · exact absurd ((A.good.inv.zero _).1 e) hf
  · exact absurd e (still_closed A.good.inv S _)
  · exact e
  · obtain ⟨c, hc, hR⟩ := A.why.st _ e
    rcases hR with hR | hR
    · omega
    · obtain ⟨q, h1, h2, h3, _⟩ := A.moved I0 S0 S hR
      have : q = g0.np := by omega
      subst this; exact h3
  · exact absurd e (A.st4 _ (by omega))
end
end Go.Ng

/- NegoAll: the walk. -/
namespace Go.Proofs.Ytclkokkppgchfaa
open Go.RowKit Go.Ng Go.Proofs.YtclkokkppgchfaaW.PrintLast
set_option linter.unusedSimpArgs false
set_option linter.unusedVariables false
theorem hasClaim_yes {tag : Nat → Tag} {v : Value} {w : World} (l : List Clm) (a b : Int) (hr : Rd 2 w v l.length (claims l)) (hok : TagOk tag w) (hl : l.length ≤ 1000000) (hm : (⟨a, b⟩ : Clm) ∈ l) :
    Calls Try.prog 59 #[v, .agg #[.int .i64 a, .int .i64 b]] w fun e w' => e = .returned (.bool true) ∧ Fr (fun _ => False) tag tag w w' := by
  have := hasClaim_ok l a b hr hok hl
  rw [decide_eq_true hm] at this
  exact this
set_option maxRecDepth 100000 in
set_option maxHeartbeats 6400000 in
theorem negoAll_ok {tag : Nat → Tag} {w : World} {v vc : Value} {places : Int} {items choices : List Int} {l : List OpM} (h : WorldRd tag w v places items l) (hc : Rd 1 w vc choices.length (ints choices)) (hce : Ext tag w vc) (hok : TagOk tag w) :
    Calls Try.prog 13 #[v, vc] w fun e w' => e = .returned (.bool true) ∧ ∃ tag', Fr (fun t => 1 ≤ t.1) tag tag' w w' := by
  have HS := fun {tag : Nat → Tag} {w : World} => @sane_ok tag w 1
  obtain ⟨vi, vl, rfl, hi, hie, hl⟩ := h.form
  obtain ⟨IA, icap, rfl, q1, q2⟩ := hi.slice
  obtain ⟨LA, lcap, rfl, q3, q4⟩ := hl.slice
  obtain ⟨CA, ccap, rfl, q5, q6⟩ := hc.slice
  unfold maxLen at q2 q6
  have hFa : Fr (fun _ => False) tag tag w (w.alloc (.cells #[.int .i64 places, .slice IA items.length icap, .slice LA l.length lcap] 75)) := Fr.alloc hok _
  have HFa := Lib.hid hFa
  have HW := Lib.hid (h.fr hFa (fun t h => h.elim))
  have HCR := Lib.hid (hc.frF hFa)
  have HCE := Lib.hid (hce.fr hFa)
  have hnew : (tag w.heap.size).1 = 0 := hok.new
  clear h hi hie hl hFa hc hce
  by_cases hb : fewB items.length l = false ∨ validB places items = false
  · have HB := Lib.hid hb
    clear hb
    go_enter Try.func13, Try.ntmps13
    go_wp2_with (first
    | (
      go_at_call 16
      refine (HS HFa.out.dom (by omega)).mono ?_
      rintro e w1 ⟨rfl, T1, hF1, hok1⟩
      have k0 : w1.cell? ⟨w.heap.size, 0, none⟩ = some (.int .i64 places) := hF1.cell (by go_simp) (by simp only [hnew]; omega)
      have k1 : w1.cell? ⟨w.heap.size, 1, none⟩ = some (.slice IA items.length icap) := hF1.cell (by go_simp) (by simp only [hnew]; omega)
      have k2 : w1.cell? ⟨w.heap.size, 2, none⟩ = some (.slice LA l.length lcap) := hF1.cell (by go_simp) (by simp only [hnew]; omega)
      have HT1 := Lib.hid (hF1.same w.heap.size (by simp))
      have HW1 := Lib.hid (HW.out.fr hF1 (fun t h => by omega))
      have HCR1 := Lib.hid (HCR.out.ext HCE.out hF1 (fun t h => by omega))
      have HCE1 := Lib.hid (HCE.out.fr hF1)
      have HF1 := Lib.hid ((HFa.out.mono (S' := fun t => 1 ≤ t.1) (fun _ h => h.elim)).trans (hF1.mono (fun t h => by omega)))
      clear hF1)
    | (
      go_at_call 39
      refine (begun_no HW1.out HF1.out.dom HB.out).mono ?_
      rintro e w2 ⟨rfl, hF2⟩
      have HF2 := Lib.hid (HF1.out.trans (hF2.mono (fun _ h => h.elim)))
      clear hF2))
    go_ret
    exact ⟨rfl, T1, HF2.out⟩
  · simp only [not_or, Bool.not_eq_false] at hb
    obtain ⟨hb1, hb2⟩ := hb
    have HB1 := Lib.hid hb1
    have HB2 := Lib.hid hb2
    have hn0 : (runG (beginG places.toNat items) l).n = items.length := by rw [runG_same]; rfl
    clear hb1 hb2
    by_cases hmany : 2000 < choices.length
    · have i8 : decide ((2000 : Int) < (choices.length : Int)) = true := decide_eq_true (by omega)
      clear hmany
      go_enter Try.func13, Try.ntmps13
      go_wp2_with (first
      | (
      go_at_call 16
      refine (HS HFa.out.dom (by omega)).mono ?_
      rintro e w1 ⟨rfl, T1, hF1, hok1⟩
      have k0 : w1.cell? ⟨w.heap.size, 0, none⟩ = some (.int .i64 places) := hF1.cell (by go_simp) (by simp only [hnew]; omega)
      have k1 : w1.cell? ⟨w.heap.size, 1, none⟩ = some (.slice IA items.length icap) := hF1.cell (by go_simp) (by simp only [hnew]; omega)
      have k2 : w1.cell? ⟨w.heap.size, 2, none⟩ = some (.slice LA l.length lcap) := hF1.cell (by go_simp) (by simp only [hnew]; omega)
      have HT1 := Lib.hid (hF1.same w.heap.size (by simp))
      have HW1 := Lib.hid (HW.out.fr hF1 (fun t h => by omega))
      have HCR1 := Lib.hid (HCR.out.ext HCE.out hF1 (fun t h => by omega))
      have HCE1 := Lib.hid (HCE.out.fr hF1)
      have HF1 := Lib.hid ((HFa.out.mono (S' := fun t => 1 ≤ t.1) (fun _ h => h.elim)).trans (hF1.mono (fun t h => by omega)))
      clear hF1)
      | (
      go_at_call 39
      refine (p_begun 100 HW1.out HF1.out.dom (by omega) HB1.out HB2.out).mono ?_
      rintro e w2 ⟨p, rfl, T2, hL2, hF2⟩
      have m1 : w2.cell? ⟨w.heap.size, 1, none⟩ = some (.slice IA items.length icap) := hF2.cell k1 (by simp only [HT1.out, hnew]; omega)
      have HT2 := Lib.hid ((hF2.same w.heap.size (World.block_lt_of_cell? w1 _ k0)).trans HT1.out)
      have HL2 := Lib.hid hL2
      have HCR2 := Lib.hid (HCR1.out.ext HCE1.out hF2 (fun t h => by omega))
      have HCE2 := Lib.hid (HCE1.out.fr hF2)
      have HF2 := Lib.hid (HF1.out.trans (hF2.mono (fun t h => by omega)))
      clear hF2 hL2 k0 k1 k2))
      go_ret
      exact ⟨rfl, T2, HF2.out⟩
    · have i8 : decide ((2000 : Int) < (choices.length : Int)) = false := decide_eq_false (by omega)
      have hc2000 : choices.length ≤ 2000 := by omega
      clear hmany
      have HN0 := Lib.hid hn0
      clear hn0
      go_enter Try.func13, Try.ntmps13
      go_wp2_with (first
      | (
      go_at_call 16
      refine (HS HFa.out.dom (by omega)).mono ?_
      rintro e w1 ⟨rfl, T1, hF1, hok1⟩
      have k0 : w1.cell? ⟨w.heap.size, 0, none⟩ = some (.int .i64 places) := hF1.cell (by go_simp) (by simp only [hnew]; omega)
      have k1 : w1.cell? ⟨w.heap.size, 1, none⟩ = some (.slice IA items.length icap) := hF1.cell (by go_simp) (by simp only [hnew]; omega)
      have k2 : w1.cell? ⟨w.heap.size, 2, none⟩ = some (.slice LA l.length lcap) := hF1.cell (by go_simp) (by simp only [hnew]; omega)
      have HT1 := Lib.hid (hF1.same w.heap.size (by simp))
      have HW1 := Lib.hid (HW.out.fr hF1 (fun t h => by omega))
      have HCR1 := Lib.hid (HCR.out.ext HCE.out hF1 (fun t h => by omega))
      have HCE1 := Lib.hid (HCE.out.fr hF1)
      have HF1 := Lib.hid ((HFa.out.mono (S' := fun t => 1 ≤ t.1) (fun _ h => h.elim)).trans (hF1.mono (fun t h => by omega)))
      clear hF1)
      | (
      go_at_call 39
      refine (p_begun 100 HW1.out HF1.out.dom (by omega) HB1.out HB2.out).mono ?_
      rintro e w2 ⟨p, rfl, T2, hL2, hF2⟩
      have m1 : w2.cell? ⟨w.heap.size, 1, none⟩ = some (.slice IA items.length icap) := hF2.cell k1 (by simp only [HT1.out, hnew]; omega)
      have HT2 := Lib.hid ((hF2.same w.heap.size (World.block_lt_of_cell? w1 _ k0)).trans HT1.out)
      have HL2 := Lib.hid hL2
      have HCR2 := Lib.hid (HCR1.out.ext HCE1.out hF2 (fun t h => by omega))
      have HCE2 := Lib.hid (HCE1.out.fr hF2)
      have HF2 := Lib.hid (HF1.out.trans (hF2.mono (fun t h => by omega)))
      clear hF2 hL2 k0 k1 k2)
      | (
        go_at_call 37
        refine (calm_ok choices HL2.out (by decide) HCR2.out HCE2.out (by omega)).mono ?_
        rintro e w3 ⟨rfl, m, T3, hfl, hm, hL3, hF3⟩
        have m3 : w3.cell? ⟨w.heap.size, 1, none⟩ = some (.slice IA items.length icap) := hF3.cell m1 (by simp only [HT2.out, hnew]; omega)
        have HL3 := Lib.hid hL3
        have HFL := Lib.hid hfl
        have HF3 := Lib.hid (HF2.out.trans (hF3.mono (fun t h => by omega)))
        have HT3 := Lib.hid ((hF3.same w.heap.size (World.block_lt_of_cell? w2 _ m1)).trans HT2.out)
        clear hL3 hfl hF3 m1))
      have hgn : (calmN choices (runG (beginG places.toNat items) l) m).1.n = items.length := by rw [(calmN_n _ _ _).1]; exact HN0.out
      generalize (calmN choices (runG (beginG places.toNat items) l) m).1 = g at HL3 HFL hgn
      have HN := Lib.hid hgn
      have HST := Lib.hid (still_of HFL.out)
      clear hgn hm
      go_wp2_with (
        go_at_call 48
        refine (p_proposals 400 HL3.out (by omega) (by decide)).mono ?_
        rintro e w4 ⟨v4, vs, rfl, T4, hrow, hcl, hF4⟩
        obtain ⟨A4, c4, rfl, z1, z2⟩ := hrow.form
        unfold maxLen at z2
        have m4 : w4.cell? ⟨w.heap.size, 1, none⟩ = some (.slice IA items.length icap) := hF4.cell m3 (by simp only [HT3.out, hnew]; omega)
        have HL4 := Lib.hid (HL3.out.fr hF4 (fun t h => by omega))
        have HF4 := Lib.hid (HF3.out.trans (hF4.mono (fun t h => by omega)))
        have HR4 := Lib.hid hrow
        have HC4 := Lib.hid hcl
        clear hrow hcl hF4 m3)
      have hnp : g.np ≤ 80 := HL4.out.np
      go_loopw [51] (fun i wr => ∃ n : Nat, n ≤ items.length ∧ i = .int .i64 n ∧ ∃ Tr : Nat → Tag, Hid (Fr (fun _ => False) T4 Tr w4 wr)) (fun i _ => items.length - (intOf i).toNat)
      case atStart => exact ⟨0, Nat.zero_le _, rfl, T4, Lib.hid (Fr.refl HF4.out.dom)⟩
      case round =>
        obtain ⟨n, hn, rfl, Tr, HFr⟩ := hrel
        by_cases hlt : n < items.length
        · have HJ : Hid (n < g.n) := Lib.hid (by rw [HN.out]; exact hlt)
          have hhl : (g.items n).hist.length ≤ 80 := by have := hist_len HL4.out.good n; omega
          obtain ⟨hl, hhl0⟩ : ∃ x, x = (g.items n).hist := ⟨_, rfl⟩
          rw [← hhl0] at hhl
          have HH := Lib.hid hhl0
          clear hhl0
          go_wp2_with (
            go_at_call 49
            refine (p_history (j := n) (300, 0, 0) (HL4.out.frF HFr.out) HJ.out (by decide)).mono ?_
            rintro e w5 ⟨v5, rfl, T5, hrow, hF5⟩
            rw [← HH.out] at hrow
            obtain ⟨A5, c5, rfl, z3, z4⟩ := hrow.form
            unfold maxLen at z4
            have HR5 := Lib.hid hrow
            have HF5 := Lib.hid (HFr.out.trans hF5)
            clear hrow hF5)
          go_loopw [64] (fun i wq => ∃ m : Nat, m ≤ hl.length ∧ i = .int .i64 m ∧ ∃ Tq : Nat → Tag, Hid (Fr (fun _ => False) T5 Tq w5 wq)) (fun i _ => hl.length - (intOf i).toNat)
          case atStart => exact ⟨0, Nat.zero_le _, rfl, T5, Lib.hid (Fr.refl HF5.out.dom)⟩
          case round =>
            obtain ⟨m, hm, rfl, Tq, HFq⟩ := hrel
            by_cases hmt : m < hl.length
            · obtain ⟨x, hx⟩ : ∃ x, hl[m]? = some x := ⟨_, List.getElem?_eq_getElem hmt⟩
              have hx' := hx
              rw [HH.out] at hx'
              obtain ⟨hx0, hx1, hx2⟩ := hist_rng HL4.out.good.inv (List.mem_of_getElem? hx')
              have he3 := HL4.out.good.inv.e3 _ _ _ hx'
              obtain ⟨xn, rfl⟩ : ∃ xn : Nat, x = xn := ⟨x.toNat, by omega⟩
              have hxn : xn < g.np := by omega
              obtain ⟨b5, rfl, _, _, hcell⟩ := (HR5.out.fr HFq.out (fun x => x)).cell rfl (j := m) (by simpa [ints] using hmt)
              have e0 : wr.cell? ⟨b5, m, none⟩ = some (.int .i64 xn) := by rw [hcell, ints, List.getElem?_map, hx]; rfl
              have hF45 := HF5.out.trans HFq.out
              obtain ⟨u, hu, hru⟩ := HC4.out xn hxn
              have hcr := hru.frF hF45
              obtain ⟨b4, rfl, _, _, hcell4⟩ := (HR4.out.fr hF45 (fun x => x)).cell rfl (j := xn) (List.getElem?_eq_some_iff.1 hu).1
              have e1 : wr.cell? ⟨b4, xn, none⟩ = some u := by rw [hcell4, hu]
              have hcl64 := HL4.out.good.inv.len xn
              obtain ⟨cs, hcs⟩ : ∃ cs, cs = (g.props xn).claims := ⟨_, rfl⟩
              rw [← hcs] at hcr he3 hcl64
              have hmem := he3
              obtain ⟨UA, ucap, rfl, u1, u2⟩ := hcr.slice
              unfold maxLen at u2
              have HCR := Lib.hid hcr
              have HME := Lib.hid hmem
              have HS2 := Lib.hid hx2
              have HXN := Lib.hid hxn
              have HFq5 := Lib.hid hF45
              have i5 : (0 : Int) ≤ (m : Int) := by omega
              have i6 : (m : Int) < (hl.length : Int) := by omega
              have i7 : (0 : Int) ≤ (xn : Int) := by omega
              have i8 : (xn : Int) < (g.np : Int) := by omega
              have j1 : decide ((xn : Int) < 0) = false := decide_eq_false (by omega)
              have j2 : decide ((g.np : Int) ≤ (xn : Int)) = false := decide_eq_false (by omega)
              have j3 : decide (g.np ≤ xn) = false := decide_eq_false (by omega)
              clear hx hx' hx0 hx1 hx2 he3 hxn hcell hF45 hu hru hcr hcell4 hcs hmem
              go_wp2_with (
                go_at_call 38
                refine (p_status (n := xn) (HL4.out.frF HFq5.out) HXN.out).mono ?_
                rw [HS2.out]
                rintro e w7 ⟨rfl, hF7⟩
                have f1 : w7.cell? ⟨b4, xn, none⟩ = some (.slice UA cs.length ucap) := hF7.cellF e1
                have HCR7 := Lib.hid (HCR.out.frF hF7)
                have HF7 := Lib.hid (HFq.out.trans hF7)
                clear hF7)
              have f1' : ∀ p : FrW Tq w7, p.v.cell? ⟨b4, xn, none⟩ = some (.slice UA cs.length ucap) := fun p => FrW.cell p HF7.out.dom f1
              refine wp_region_fr (tag := Tq) (by kernel_rfl) (by kernel_rfl) ?_
              repeat (go_big_quiet_step (first | (go_at_call 54; exact Calls.fr_of (claim_ok _ _ (FrW.fr _ HF7.out.dom).dom)) | (go_at_call 59; exact Calls.fr_of (hasClaim_yes cs _ _ (HCR7.out.frF (FrW.fr _ HF7.out.dom)) (FrW.fr _ HF7.out.dom).dom (by omega) HME.out))))
              refine wpQuiet_nil ?_
              intro wq hw'
              have hwq := FrW.of (HF7.out.dom) hw'
              clear hw'
              have HF8 := Lib.hid (HF7.out.trans hwq)
              clear hwq
              go_wp2_with fail
              go_roundw
              case rel => exact ⟨m + 1, by omega, by go_num, Tq, HF8⟩
              case measure => simp [intOf]; omega
            · have hmm : m = hl.length := by omega
              subst hmm
              go_wp2_with fail
              go_roundw
              case rel => exact ⟨n + 1, by omega, by go_num, Tq, Lib.hid (HF5.out.trans HFq.out)⟩
              case measure => simp [intOf]; omega
        · have hnn : n = items.length := by omega
          subst hnn
          have HFk := HFr
          clear HFr
          go_wp2_with fail
          go_loopw [106] (fun i wq => ∃ n : Nat, n ≤ g.np ∧ i = .int .i64 n ∧ ∃ Tq : Nat → Tag, Hid (Fr (fun _ => False) T4 Tq w4 wq)) (fun i _ => g.np - (intOf i).toNat)
          case atStart => exact ⟨0, Nat.zero_le _, rfl, Tr, HFk⟩
          case round =>
            obtain ⟨n, hn, rfl, Tq, HFq⟩ := hrel
            by_cases hlt : n < g.np
            · obtain ⟨u, hu, hru⟩ := HC4.out n hlt
              have hcr := hru.frF HFq.out
              obtain ⟨b4, rfl, _, _, hcell4⟩ := (HR4.out.fr HFq.out (fun x => x)).cell rfl (j := n) (List.getElem?_eq_some_iff.1 hu).1
              have e1 : wr.cell? ⟨b4, n, none⟩ = some u := by rw [hcell4, hu]
              have hcl64 := HL4.out.good.inv.len n
              obtain ⟨cs, hcs⟩ : ∃ cs, cs = (g.props n).claims := ⟨_, rfl⟩
              obtain ⟨st, hst⟩ : ∃ st, st = (g.props n).st := ⟨_, rfl⟩
              rw [← hcs] at hcr hcl64
              obtain ⟨UA, ucap, rfl, u1, u2⟩ := hcr.slice
              unfold maxLen at u2
              have HCR := Lib.hid hcr
              have HCS := Lib.hid hcs
              have HSS := Lib.hid hst
              have i7 : (0 : Int) ≤ (n : Int) := by omega
              have i8 : (n : Int) < (g.np : Int) := by omega
              clear hu hru hcr hcell4 hcs hst
              go_wp2_with (
                go_at_call 38
                refine (p_status (n := n) (HL4.out.frF HFq.out) hlt).mono ?_
                rw [← HSS.out]
                rintro e w7 ⟨rfl, hF7⟩
                have HCR7 := Lib.hid (HCR.out.frF hF7)
                have HF7 := Lib.hid (HFq.out.trans hF7)
                clear hF7)
              go_loopw [121] (fun i wq => ∃ k : Nat, k ≤ cs.length ∧ i = .int .i64 k ∧ ∃ Tk : Nat → Tag, Hid (Fr (fun _ => False) Tq Tk w7 wq)) (fun i _ => cs.length - (intOf i).toNat)
              case atStart => exact ⟨0, Nat.zero_le _, rfl, Tq, Lib.hid (Fr.refl HF7.out.dom)⟩
              case round =>
                obtain ⟨k, hk, rfl, Tk, HFk2⟩ := hrel
                by_cases hkt : k < cs.length
                · obtain ⟨⟨ci, cver⟩, hcx⟩ : ∃ c, cs[k]? = some c := ⟨_, List.getElem?_eq_getElem hkt⟩
                  have hmem : (⟨ci, cver⟩ : Clm) ∈ (g.props n).claims := by rw [← HCS.out]; exact List.mem_of_getElem? hcx
                  have hrng : (0 : Int) ≤ n ∧ (n : Int) < g.np ∧ 0 ≤ ci ∧ ci < g.n := claims_rng HL4.out.good hmem
                  have hv0 : (0 : Int) ≤ cver := HL4.out.good.clv n _ hmem
                  have hall := all_moved HL4.out.good.inv HST.out hmem
                  obtain ⟨jn, rfl⟩ : ∃ jn : Nat, ci = jn := ⟨ci.toNat, by omega⟩
                  obtain ⟨vn, rfl⟩ : ∃ vn : Nat, cver = vn := ⟨cver.toNat, by omega⟩
                  have HJ : Hid (jn < g.n) := Lib.hid (by omega)
                  obtain ⟨bc, off, cap, hv, _, _, hce⟩ := Rd.elem (enc := Clm.cells) (HCR7.out.frF HFk2.out) (fun _ => rfl) (by decide) hcx
                  injection hv with hv _ hv2
                  subst hv hv2
                  have f0 : wr.cell? ⟨bc, off + k * 2, none⟩ = some (.int .i64 jn) := hce 0 _ rfl
                  have f1 : wr.cell? ⟨bc, off + k * 2 + 1, none⟩ = some (.int .i64 vn) := hce 1 _ rfl
                  have i10 : (0 : Int) ≤ (k : Int) := by omega
                  have i11 : (k : Int) < (cs.length : Int) := by omega
                  have i12 : (0 : Int) ≤ (vn : Int) := by omega
                  have i13 : decide ((0 : Int) ≤ (vn : Int)) = true := decide_eq_true i12
                  have hhl : (g.items jn).hist.length ≤ 80 := by have := hist_len HL4.out.good jn; omega
                  obtain ⟨hs, hhs⟩ : ∃ x, x = (g.items jn).hist := ⟨_, rfl⟩
                  simp only [Int.toNat_natCast, ← hhs, ← HSS.out] at hhl hall
                  have HHS := Lib.hid hhs
                  have HFa := Lib.hid (HFk2.out.al (.cells #[.int .i64 jn, .int .i64 vn] 69))
                  clear hce hmem hrng hhs hcx
                  by_cases hvl : vn < hs.length
                  · obtain ⟨y, hy⟩ : ∃ y, hs[vn]? = some y := ⟨_, List.getElem?_eq_getElem hvl⟩
                    have hq : (!((y == (n : Int)) == (st == 2))) = false := by
                      rw [hy] at hall
                      by_cases e : y = n
                      · have : st = 2 := hall.1 ⟨by rw [e], i12⟩
                        simp [e, this]
                      · have : st ≠ 2 := fun h => e (Option.some.inj (hall.2 h).1)
                        rw [beq_eq_false_iff_ne.2 e, beq_eq_false_iff_ne.2 this]; rfl
                    have i14 : decide ((vn : Int) < (hs.length : Int)) = true := decide_eq_true (by omega)
                    have i15 : (vn : Int) < (hs.length : Int) := by omega
                    have HY := Lib.hid hy
                    clear hy hall
                    go_wp2_with (
                      go_at_call 49
                      refine (p_history (j := jn) (301, 0, 0) (HL4.out.frF (HF7.out.trans HFa.out)) HJ.out (by decide)).mono ?_
                      rw [← HHS.out]
                      rintro e w9 ⟨v9, rfl, T9, hrow, hF9⟩
                      obtain ⟨A9, c9, rfl, z5, z6⟩ := hrow.form
                      unfold maxLen at z6
                      obtain ⟨b9, rfl, _, _, hcell⟩ := hrow.cell rfl (j := vn) (by simpa [ints] using hvl)
                      have e9 : w9.cell? ⟨b9, vn, none⟩ = some (.int .i64 y) := by rw [hcell, ints, List.getElem?_map, HY.out]; rfl
                      have a0 : w9.cell? ⟨wr.heap.size, 0, none⟩ = some (.int .i64 jn) := hF9.cellF (by go_simp)
                      have a1 : w9.cell? ⟨wr.heap.size, 1, none⟩ = some (.int .i64 vn) := hF9.cellF (by go_simp)
                      have HF9 := Lib.hid (HFa.out.trans hF9)
                      clear hF9 hrow hcell)
                    go_roundw
                    case rel => exact ⟨k + 1, by omega, by go_num, T9, HF9⟩
                    case measure => simp [intOf]; omega
                  · have hq : (st == 2) = false := by
                      rw [beq_eq_false_iff_ne]
                      intro e
                      have := (hall.2 e).1
                      have := (List.getElem?_eq_some_iff.1 this).1
                      omega
                    have i14 : decide ((vn : Int) < (hs.length : Int)) = false := decide_eq_false (by omega)
                    clear hall
                    go_wp2_with (
                      go_at_call 49
                      refine (p_history (j := jn) (301, 0, 0) (HL4.out.frF (HF7.out.trans HFa.out)) HJ.out (by decide)).mono ?_
                      rw [← HHS.out]
                      rintro e w9 ⟨v9, rfl, T9, hrow, hF9⟩
                      obtain ⟨A9, c9, rfl, z5, z6⟩ := hrow.form
                      unfold maxLen at z6
                      have a0 : w9.cell? ⟨wr.heap.size, 0, none⟩ = some (.int .i64 jn) := hF9.cellF (by go_simp)
                      have a1 : w9.cell? ⟨wr.heap.size, 1, none⟩ = some (.int .i64 vn) := hF9.cellF (by go_simp)
                      have HF9 := Lib.hid (HFa.out.trans hF9)
                      clear hF9 hrow)
                    go_roundw
                    case rel => exact ⟨k + 1, by omega, by go_num, T9, HF9⟩
                    case measure => simp [intOf]; omega
                · have hkk : k = cs.length := by omega
                  subst hkk
                  go_wp2_with fail
                  go_roundw
                  case rel => exact ⟨n + 1, by omega, by go_num, Tk, Lib.hid (HF7.out.trans HFk2.out)⟩
                  case measure => simp [intOf]; omega
            · have hnn : n = g.np := by omega
              subst hnn
              go_wp2_with fail
              go_ret
              exact ⟨rfl, Tq, HF4.out.trans (HFq.out.mono (fun _ h => h.elim))⟩
end Go.Proofs.Ytclkokkppgchfaa

/- A list of numbers, handed over. -/
namespace Go.Proofs.Ytclkokkppgchfaa
open Go.ChangeShapes Go.WideShapes Go.ChangeAt Go.RowKit Go.Joins Go.Deep Go.Ng
set_option linter.unusedVariables false
section
variable {H : Type} {enc : TypeId × Value → H} {w : World} {base base0 : Nat} {spare : Nat → Bool} {held : Bool}
set_option maxRecDepth 100000 in
theorem open_ints_arg {v : Value} {d : DataW H} {p : List MemPlace} (hv : Value.okWide Try.prog w .any base0 22 v) (h : DataW.Trod enc Try.prog w base spare held 22 v d p) : ∃ l : List Int, Rd 1 w v l.length (ints l) ∧ Ext tag0 w v := by
  obtain ⟨a, len, cap, rfl⟩ := okWide_slice Try.underlying22 hv
  obtain ⟨n, hn⟩ := h
  refine open_intsRd hn (base0 := base0) ?_
  simpa only [Value.okWide, Try.underlying22] using hv
end
end Go.Proofs.Ytclkokkppgchfaa
