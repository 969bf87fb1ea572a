/- A part of the proof: texts of this session, joined. -/
import Derived.Test.YtclkokkppgchfaaPart10
import Derived.Deep.DeepCutAuto
/- NegoOne: the walk. -/
namespace Go.Proofs.Ytclkokkppgchfaa
open Go.RowKit Go.Ng Go.Proofs.YtclkokkppgchfaaW.PrintLast
set_option linter.unusedSimpArgs false
set_option linter.unusedVariables false
/-- The beginning of a row. -/
theorem row_prefix {tag : Nat → Tag} {t : Tag} {w : World} {A : Option Addr} {n cap : Nat} {l : List Int} (h : Row tag t 3 1 w (.slice A n cap) n (ints l)) {i : Nat} (hi : i ≤ n) : Rd 1 w (.slice A i cap) i (ints (l.take i)) := by
  have hlen : l.length = n := by have := h.len; simpa [ints] using this
  have hrd := h.rd (ints_one l)
  refine ⟨by simp [ints]; omega, ints_one _, ?_⟩
  rcases hrd.form with ⟨hv, hn⟩ | ⟨b, off, cap', hv, h1, h2, h3⟩
  · injection hv with a1 a2 a3
    subst a1 a3
    have : i = 0 := by omega
    subst this
    exact .inl ⟨rfl, rfl⟩
  · injection hv with a1 a2 a3
    subst a1 a3
    refine .inr ⟨b, off, cap, rfl, by omega, h2, fun j u hu => h3 j u ?_⟩
    have hj : j < i := by
      have := (List.getElem?_eq_some_iff.1 hu).1
      simp [ints] at this; omega
    rw [ints, List.getElem?_map, List.getElem?_take, if_pos hj] at hu
    rw [ints, List.getElem?_map]; exact hu
theorem nodup_take {l : List Int} (h : l.Nodup) {i : Nat} {x : Int} (hx : l[i]? = some x) : x ∉ l.take i := by
  intro hm
  obtain ⟨j, hj⟩ := List.getElem?_of_mem hm
  rw [List.getElem?_take] at hj
  split at hj
  · rename_i hji
    obtain ⟨h1, h2⟩ := List.getElem?_eq_some_iff.1 hx
    obtain ⟨h3, h4⟩ := List.getElem?_eq_some_iff.1 hj
    have := (List.pairwise_iff_getElem.1 h) j i h3 h1 hji
    exact this (h4.trans h2.symm)
  · cases hj
theorem runG_same (g : G) : ∀ l : List OpM, (runG g l).n = g.n := by
  intro l
  induction l generalizing g with
  | nil => rfl
  | cons o l ih =>
    show (runG (doG g o).1 l).n = g.n
    rw [ih]
    have hL : ∀ i : Int, (doL g i).1.n = g.n := by
      intro i; unfold doL; split
      · rfl
      · split
        · exact (takeG_same (g := g) _).2.2.1
        · rfl
    unfold doG
    split
    · unfold doP; repeat' (first | rfl | split)
    · split
      · unfold doD; repeat' (first | rfl | split)
      · split
        · exact hL _
        · split
          · unfold doB; repeat' (first | rfl | split)
          · rfl
set_option maxRecDepth 100000 in
set_option maxHeartbeats 6400000 in
theorem negoOne_ok {tag : Nat → Tag} {w : World} {v : Value} {places : Int} {items : List Int} {l : List OpM} (h : WorldRd tag w v places items l) (hok : TagOk tag w) :
    Calls Try.prog 9 #[v] w fun e w' => e = .returned (.bool true) ∧ ∃ tag', Fr (fun t => 1 ≤ t.1) tag tag' w w' := by
  have HS := fun {tag : Nat → Tag} {w : World} => @sane_ok tag w 1
  obtain ⟨vi, vl, rfl, hi, hie, hl⟩ := h.form
  obtain ⟨IA, icap, rfl, q1, q2⟩ := hi.slice
  obtain ⟨LA, lcap, rfl, q3, q4⟩ := hl.slice
  unfold maxLen at q2
  have hFa : Fr (fun _ => False) tag tag w (w.alloc (.cells #[.int .i64 places, .slice IA items.length icap, .slice LA l.length lcap] 75)) := Fr.alloc hok _
  have HFa := Lib.hid hFa
  have HW := Lib.hid (h.fr hFa (fun t h => h.elim))
  have hnew : (tag w.heap.size).1 = 0 := hok.new
  clear h hi hie hl hFa
  by_cases hb : fewB items.length l = false ∨ validB places items = false
  · have HB := Lib.hid hb
    clear hb
    go_enter Try.func9, Try.ntmps9
    go_wp2_with (first
    | (
      go_at_call 16
      refine (HS HFa.out.dom (by omega)).mono ?_
      rintro e w1 ⟨rfl, T1, hF1, hok1⟩
      have k0 : w1.cell? ⟨w.heap.size, 0, none⟩ = some (.int .i64 places) := hF1.cell (by go_simp) (by simp only [hnew]; omega)
      have k1 : w1.cell? ⟨w.heap.size, 1, none⟩ = some (.slice IA items.length icap) := hF1.cell (by go_simp) (by simp only [hnew]; omega)
      have k2 : w1.cell? ⟨w.heap.size, 2, none⟩ = some (.slice LA l.length lcap) := hF1.cell (by go_simp) (by simp only [hnew]; omega)
      have HW1 := Lib.hid (HW.out.fr hF1 (fun t h => by omega))
      have HF1 := Lib.hid ((HFa.out.mono (S' := fun t => 1 ≤ t.1) (fun _ h => h.elim)).trans (hF1.mono (fun t h => by omega)))
      clear hF1)
    | (
      go_at_call 39
      refine (begun_no HW1.out HF1.out.dom HB.out).mono ?_
      rintro e w2 ⟨rfl, hF2⟩
      have HF2 := Lib.hid (HF1.out.trans (hF2.mono (fun _ h => h.elim)))
      clear hF2))
    go_ret
    exact ⟨rfl, T1, HF2.out⟩
  · simp only [not_or, Bool.not_eq_false] at hb
    obtain ⟨hb1, hb2⟩ := hb
    have HB1 := Lib.hid hb1
    have HB2 := Lib.hid hb2
    clear hb1 hb2
    go_enter Try.func9, Try.ntmps9
    go_wp2_with (first
    | (
      go_at_call 16
      refine (HS HFa.out.dom (by omega)).mono ?_
      rintro e w1 ⟨rfl, T1, hF1, hok1⟩
      have k0 : w1.cell? ⟨w.heap.size, 0, none⟩ = some (.int .i64 places) := hF1.cell (by go_simp) (by simp only [hnew]; omega)
      have k1 : w1.cell? ⟨w.heap.size, 1, none⟩ = some (.slice IA items.length icap) := hF1.cell (by go_simp) (by simp only [hnew]; omega)
      have k2 : w1.cell? ⟨w.heap.size, 2, none⟩ = some (.slice LA l.length lcap) := hF1.cell (by go_simp) (by simp only [hnew]; omega)
      have HT1 := Lib.hid (hF1.same w.heap.size (by simp))
      have HW1 := Lib.hid (HW.out.fr hF1 (fun t h => by omega))
      have HF1 := Lib.hid ((HFa.out.mono (S' := fun t => 1 ≤ t.1) (fun _ h => h.elim)).trans (hF1.mono (fun t h => by omega)))
      clear hF1)
    | (
      go_at_call 39
      refine (p_begun 100 HW1.out HF1.out.dom (by omega) HB1.out HB2.out).mono ?_
      rintro e w2 ⟨p, rfl, T2, hL2, hF2⟩
      have m1 : w2.cell? ⟨w.heap.size, 1, none⟩ = some (.slice IA items.length icap) := hF2.cell k1 (by simp only [HT1.out, hnew]; omega)
      have HL2 := Lib.hid hL2
      have HF2 := Lib.hid (HF1.out.trans (hF2.mono (fun t h => by omega)))
      clear hF2 hL2 k0 k1 k2))
    have hn : (runG (beginG places.toNat items) l).n = items.length := by rw [runG_same]; rfl
    generalize runG (beginG places.toNat items) l = g at HL2 hn
    have HN := Lib.hid hn
    clear hn
    go_loopw [26] (fun i wr => ∃ n : Nat, n ≤ items.length ∧ i = .int .i64 n ∧ ∃ Tr : Nat → Tag, Hid (LiveP Tr 100 wr p g 80) ∧ Hid (Fr (fun t => 1 ≤ t.1) tag Tr w wr)) (fun i _ => items.length - (intOf i).toNat)
    case atStart => exact ⟨0, Nat.zero_le _, rfl, T2, HL2, HF2⟩
    case round =>
      obtain ⟨n, hn, rfl, Tr, HLr, HFr⟩ := hrel
      by_cases hlt : n < items.length
      · have HJ : Hid (n < g.n) := Lib.hid (by rw [HN.out]; exact hlt)
        have HV : Hid ((g.items n).ver = ((g.items n).hist.length : Int)) := Lib.hid (HLr.out.good.inv.vh n)
        have HD := Lib.hid (HLr.out.good.inv.hnd n)
        have hhl : (g.items n).hist.length ≤ 80 := by have := hist_len HLr.out.good n; have := HLr.out.np; omega
        obtain ⟨hl, hhl0⟩ : ∃ x, x = (g.items n).hist := ⟨_, rfl⟩
        rw [← hhl0] at HV HD hhl
        have HH := Lib.hid hhl0
        clear hhl0
        go_wp2_with (first
        | (
          go_at_call 49
          refine (p_history (j := n) (300, 0, 0) HLr.out HJ.out (by decide)).mono ?_
          rintro e w3 ⟨v3, rfl, T3, hrow, hF3⟩
          rw [← HH.out] at hrow
          obtain ⟨A3, c3, rfl, z1, z2⟩ := hrow.form
          unfold maxLen at z2
          have HR3 := Lib.hid hrow
          have HL3 := Lib.hid (HLr.out.frF hF3)
          have HF3 := Lib.hid (HFr.out.trans (hF3.mono (fun _ h => h.elim)))
          clear hrow hF3)
        | (
          go_at_call 50
          refine (p_version (j := n) HL3.out HJ.out).mono ?_
          rw [HV.out]
          rintro e w4 ⟨rfl, hF4⟩
          have HR4 := Lib.hid (HR3.out.fr hF4 (fun x => x))
          have HL4 := Lib.hid (HL3.out.frF hF4)
          have HF4 := Lib.hid (HF3.out.trans (hF4.mono (fun _ h => h.elim)))
          clear hF4))
        go_loopw [55] (fun i wq => ∃ m : Nat, m ≤ hl.length ∧ i = .int .i64 m ∧ Hid (Fr (fun _ => False) T3 T3 w4 wq)) (fun i _ => hl.length - (intOf i).toNat)
        case atStart => exact ⟨0, Nat.zero_le _, rfl, Lib.hid (Fr.refl HF4.out.dom)⟩
        case round =>
          obtain ⟨m, hm, rfl, HFq⟩ := hrel
          by_cases hmt : m < hl.length
          · obtain ⟨x, hx⟩ : ∃ x, hl[m]? = some x := ⟨_, List.getElem?_eq_getElem hmt⟩
            have hr4 := HR4.out.fr HFq.out (fun x => x)
            obtain ⟨b, rfl, _, _, hcell⟩ := hr4.cell rfl (j := m) (by simpa [ints] using hmt)
            have e0 : wr.cell? ⟨b, m, none⟩ = some (.int .i64 x) := by rw [hcell, ints, List.getElem?_map, hx]; rfl
            have HPR := Lib.hid (row_prefix hr4 (i := m) (by omega))
            have hno : decide (x ∈ hl.take m) = false := decide_eq_false (nodup_take HD.out hx)
            have HNO := Lib.hid hno
            have i5 : (0 : Int) ≤ (m : Int) := by omega
            have i6 : (m : Int) < (hl.length : Int) := by omega
            have i7 : (m : Int) ≤ (c3 : Int) := by omega
            have htl : (hl.take m).length = m := by rw [List.length_take]; omega
            have HTL := Lib.hid htl
            have hc3 : ¬ c3 = m ∨ c3 = m := by omega
            clear hx hr4 hcell hno htl hc3
            go_wp2_with (
              go_at_call 51
              refine (containsN_ok (hl.take m) x wr (by rw [HTL.out]; exact HPR.out) (by rw [HTL.out]; omega)).mono ?_
              rw [HNO.out]
              rintro e w' ⟨rfl, hw⟩
              replace hw := hw.symm
              subst hw)
            go_roundw
            case rel => exact ⟨m + 1, by omega, by go_num, HFq⟩
            case measure => simp [intOf]; omega
          · have hmm : m = hl.length := by omega
            subst hmm
            go_wp2_with fail
            go_roundw
            case rel => exact ⟨n + 1, by omega, by go_num, T3, Lib.hid (HL4.out.frF HFq.out), Lib.hid (HF4.out.trans (HFq.out.mono (fun _ h => h.elim)))⟩
            case measure => simp [intOf]; omega
      · have hnn : n = items.length := by omega
        subst hnn
        go_wp2_with fail
        go_ret
        exact ⟨rfl, Tr, HFr.out⟩
end Go.Proofs.Ytclkokkppgchfaa

/- calm, versions, Proposals. -/
namespace Go.Proofs.Ytclkokkppgchfaa
open Go.RowKit Go.Ng Go.Proofs.YtclkokkppgchfaaW.PrintLast
set_option linter.unusedSimpArgs false
set_option linter.unusedVariables false
section
variable {tag : Nat → Tag} {w : World} {B p k : Nat} {g : G}
theorem calm_ok (choices : List Int) {v : Value} (L : LiveP tag B w p g k) (hk : k ≤ 150) (hr : Rd 1 w v choices.length (ints choices)) (he : Ext tag w v) (hc : choices.length ≤ 1000000) :
    Calls Try.prog 37 #[.pointer (some ⟨p, 0, none⟩), v] w fun e w' => e = .returned (.bool true) ∧ ∃ (m : Nat) (tag' : Nat → Tag), (calmN choices g m).1.fl = [] ∧ m ≤ W2.all g ∧ LiveP tag' B w' p (calmN choices g m).1 k ∧ Fr (fun t => B ≤ t.1 ∧ t.1 ≤ B + 33) tag tag' w w' := by
  have HC := Lib.hid (p_calm choices L hk hr he hc)
  clear L hr he
  go_enter Try.func37, Try.ntmps37
  go_wp2_with (first
  | (
    go_at_call 33
    refine HC.out.mono ?_
    rintro e w1 ⟨m, cv, rfl, hfl, hm, T1, hL1, _, hF1⟩
    have HL1 := Lib.hid hL1
    have HFL := Lib.hid hfl
    have HF1 := Lib.hid hF1
    clear hL1 hfl hF1)
  | (
    go_at_call 42
    refine (p_flight (B + 40, 3, 0) HL1.out hk).mono ?_
    rintro e w2 ⟨v2, rfl, T2, hrow, hF2⟩
    obtain ⟨A2, c2, h2, _, _⟩ := hrow.form
    rw [HFL.out] at h2
    simp only [List.length_nil] at h2
    subst h2
    have HL2 := Lib.hid (HL1.out.frF hF2)
    have HF2 := Lib.hid (HF1.out.trans (hF2.mono (fun _ h => h.elim)))
    clear hrow hF2))
  go_ret
  exact ⟨rfl, m, T2, HFL.out, hm, HL2.out, HF2.out⟩
set_option maxRecDepth 100000 in
set_option maxHeartbeats 3200000 in
theorem nproposals_ok {N : NetM} (r : Nat) (h : NRep tag B w N) (hok : TagOk tag w) (hr : r < B ∨ B + N.places.length < r) (hr0 : r ≠ 0) (hn : N.claims.length ≤ 1000) (hl : ∀ (i : Nat) (l : List Clm), N.claims[i]? = some l → l.length ≤ 1000) :
    Calls Try.prog 48 #[.pointer (some ⟨N.ptr, 0, none⟩)] w fun e w' => ∃ v vs, e = .returned v ∧ ∃ tag' : Nat → Tag, Row tag' (r, 0, 0) 34 1 w' v N.claims.length vs ∧ (∀ (i : Nat) (l : List Clm), N.claims[i]? = some l → ∃ u, vs[i]? = some u ∧ Rd 2 w' u l.length (claims l)) ∧ Fr (fun t => t.1 = r) tag tag' w w' := by
  obtain ⟨i0, hi, hz0, hz1, hz2⟩ := info_parts Try.info34
  obtain ⟨pv, sv, fv, xv, hv, yv, dv, hce, h2, h3, h4, ⟨cvs, h5, h6⟩, h7, h8⟩ := h.cells
  obtain ⟨CA, ccap, rfl, q1, q2⟩ := h5.form
  unfold maxLen at q2
  have c3 : w.cell? ⟨N.ptr, 3, none⟩ = some (.slice CA N.claims.length ccap) := cell_of hce 3
  have hcvl : cvs.length = N.claims.length := by have := h5.len; omega
  have H5 := Lib.hid h5
  have H6 := Lib.hid h6
  have HLN := Lib.hid hl
  have HCVL := Lib.hid hcvl
  have hB0 := h.b0
  clear h hce h2 h3 h4 h5 h6 h7 h8 hl hcvl
  go_enter Try.func48, Try.ntmps48
  go_wp2_with fail
  go_loopw [3, 13] (fun a i wr => ∃ n : Nat, n ≤ N.claims.length ∧ i = .int .i64 n ∧ ∃ (Tr : Nat → Tag) (vs : List Value), Hid (Row Tr (r, 0, 0) 34 1 wr a n vs) ∧
    Hid (∀ (i : Nat) (l : List Clm), i < n → N.claims[i]? = some l → ∃ u, vs[i]? = some u ∧ Row Tr (r, 1, (i : Int)) 69 2 wr u l.length (claims l)) ∧ Hid (Fr (fun t => t.1 = r) tag Tr w wr)) (fun _ i _ => N.claims.length - (intOf i).toNat)
  case atStart => exact ⟨0, Nat.zero_le _, rfl, tag, [], Lib.hid (Row.nil _ _ _ _ _), Lib.hid (fun i l h => by omega), Lib.hid (Fr.refl hok)⟩
  case round =>
    obtain ⟨n, hn', rfl, Tr, vs, HRo, HIn, HFr⟩ := hrel
    obtain ⟨RA, rcap, rfl, _, _⟩ := HRo.out.form
    by_cases hlt : n < N.claims.length
    · obtain ⟨l, hx⟩ : ∃ l, N.claims[n]? = some l := ⟨_, List.getElem?_eq_getElem hlt⟩
      obtain ⟨u, hu, hur⟩ := H6.out n l hx
      have h5r := H5.out.fr HFr.out (show ¬ (B, 5, (0 : Int)).1 = r by simp; omega)
      obtain ⟨cb, rfl, _, _, hcell⟩ := h5r.cell rfl (j := n) (by rw [HCVL.out]; exact hlt)
      obtain ⟨UA, ucap, rfl, _, _⟩ := hur.form
      have e0 : wr.cell? ⟨cb, n, none⟩ = some (.slice UA l.length ucap) := by rw [hcell]; exact hu
      have HUR := Lib.hid ((hur.fr HFr.out (show ¬ (B, 6, (n : Int)).1 = r by simp; omega)).rd (claims_one l))
      have hll := HLN.out n l hx
      have HX := Lib.hid hx
      have i5 : (0 : Int) ≤ (n : Int) := by omega
      have i6 : (n : Int) < (N.claims.length : Int) := by omega
      have hokr := HFr.out.dom
      clear hx hu hur h5r hcell
      go_wp2_with (first
      | (
        go_at_call 70
        refine (clone70_ok (r, 1, (n : Int)) l.length (claims l) wr HUR.out hokr (by omega)).mono ?_
        rintro e w1 ⟨v1, rfl, T1, hrow, hF1⟩
        obtain ⟨A1, c1, rfl, _, _⟩ := hrow.form
        have HV1 := Lib.hid hrow
        have HF1 := Lib.hid hF1
        have HR1 := Lib.hid (HRo.out.fr hF1 (fun x => x))
        clear hrow hF1)
      | (
        at_builtin
        refine append_list rfl (.tmp 17) (.tmp 20) 87 rfl (by rfl) (by rfl) (HR1.out.alloc _) (HF1.out.dom.alloc _) Try.underlying87 hi hz0 hz1 hz2 rfl (by decide) [.slice A1 l.length c1] rfl (news_at (Go.Ng.heap_alloc_at _ _)) (by simp [Value.oneCell']) (by decide) (by unfold maxLen; omega) (by omega) ?_
        intro g2 cap2 w2 T2 hrow hfr
        have HROW := Lib.hid hrow
        have HF2 := Lib.hid ((Fr.alloc HF1.out.dom (.cells #[.slice A1 l.length c1] 34)).trans hfr)
        clear hrow hfr))
      go_roundw
      case rel =>
        refine ⟨n + 1, by omega, by go_num, T2, vs ++ [.slice A1 l.length c1], HROW, Lib.hid (fun i l' hil hl' => ?_), Lib.hid ((HFr.out.trans (HF1.out.mono (fun _ h => h.elim))).trans (HF2.out.mono (fun t h => by rw [h])))⟩
        have hvl : vs.length = n := by have := HRo.out.len; omega
        by_cases e : i < n
        · obtain ⟨u, hu, hr'⟩ := HIn.out i l' e hl'
          exact ⟨u, by rw [List.getElem?_append_left (by omega)]; exact hu, (hr'.fr HF1.out (fun x => x)).fr HF2.out (by simp)⟩
        · have : i = n := by omega
          subst this
          rw [HX.out] at hl'
          injection hl' with hl'
          subst hl'
          exact ⟨.slice A1 l.length c1, by rw [List.getElem?_append_right (by omega), hvl]; simp, HV1.out.fr HF2.out (by simp)⟩
      case measure => simp [intOf]; omega
    · have hnn : n = N.claims.length := by omega
      subst hnn
      go_wp2_with fail
      go_ret
      exact ⟨_, vs, rfl, Tr, HRo.out, fun i l hl => by obtain ⟨u, h1, h2⟩ := HIn.out i l (List.getElem?_eq_some_iff.1 hl).1 hl; exact ⟨u, h1, h2.rd (claims_one l)⟩, HFr.out⟩
theorem p_proposals (r : Nat) (L : LiveP tag B w p g k) (hr : B + 32 < r) (hk : k ≤ 150) :
    Calls Try.prog 48 #[.pointer (some ⟨p, 0, none⟩)] w fun e w' => ∃ v vs, e = .returned v ∧ ∃ tag' : Nat → Tag, Row tag' (r, 0, 0) 34 1 w' v g.np vs ∧ (∀ i : Nat, i < g.np → ∃ u, vs[i]? = some u ∧ Rd 2 w' u (g.props i).claims.length (claims (g.props i).claims)) ∧ Fr (fun t => t.1 = r) tag tag' w w' := by
  obtain ⟨N, rfl, h⟩ := L.net
  have hp := h.abs.p32
  have hnp := h.np
  refine (nproposals_ok r h.rep h.ok (by rw [h.abs.plen]; omega) (by omega) (by rw [h.abs.clen]; omega) (fun i l hl => ?_)).mono ?_
  · have hi : i < g.np := by rw [← h.abs.clen]; exact (List.getElem?_eq_some_iff.1 hl).1
    rw [h.abs.claims i hi] at hl
    injection hl with hl
    have := h.good.inv.len i
    rw [← hl]; omega
  · rintro e w' ⟨v, vs, he, T, h1, h2, h3⟩
    rw [h.abs.clen] at h1
    exact ⟨v, vs, he, T, h1, fun i hi => h2 i _ (h.abs.claims i hi), h3⟩
end
/-- What deliveries alone make of a negotiation. -/
theorem calmN_good {choices : List Int} {g : G} (I : NGood g) : ∀ k, NGood (calmN choices g k).1 := by
  intro k
  induction k with
  | zero => exact I
  | succ k ih =>
    show NGood (doL (calmN choices g k).1 _).1
    unfold doL
    split
    · exact ih
    · split
      · rename_i m hm; exact ih.deliver hm
      · exact ih
theorem still_of {g : G} (h : g.fl = []) : Still g.has := fun k p j ⟨m, hm, _⟩ => by rw [h] at hm; cases hm
end Go.Proofs.Ytclkokkppgchfaa

/- NegoFree: the walk. -/
namespace Go.Proofs.Ytclkokkppgchfaa
open Go.RowKit Go.Ng Go.Proofs.YtclkokkppgchfaaW.PrintLast
set_option linter.unusedSimpArgs false
set_option linter.unusedVariables false
theorem doL_same (g : G) (i : Int) : (doL g i).1.n = g.n ∧ (doL g i).1.np = g.np ∧ (∀ p, ((doL g i).1.props p).claims = (g.props p).claims) := by
  unfold doL; split
  · exact ⟨rfl, rfl, fun _ => rfl⟩
  · split
    · have h := takeG_same (g := g) ‹_›; exact ⟨h.2.2.1, h.2.2.2.1, h.2.2.2.2.2.2⟩
    · exact ⟨rfl, rfl, fun _ => rfl⟩
theorem calmN_n (choices : List Int) (g : G) : ∀ k, (calmN choices g k).1.n = g.n ∧ (calmN choices g k).1.np = g.np ∧ (∀ p, ((calmN choices g k).1.props p).claims = (g.props p).claims)
  | 0 => ⟨rfl, rfl, fun _ => rfl⟩
  | k + 1 => by
    have h1 := calmN_n choices g k
    have h2 := doL_same (calmN choices g k).1 (pickC choices k (calmN choices g k).1.fl.length)
    exact ⟨h2.1.trans h1.1, h2.2.1.trans h1.2.1, fun p => (h2.2.2 p).trans (h1.2.2 p)⟩
set_option maxRecDepth 100000 in
set_option maxHeartbeats 6400000 in
theorem negoFree_ok {tag : Nat → Tag} {w : World} {v vc : Value} {places : Int} {items choices : List Int} {l : List OpM} (h : WorldRd tag w v places items l) (hc : Rd 1 w vc choices.length (ints choices)) (hce : Ext tag w vc) (hok : TagOk tag w) :
    Calls Try.prog 8 #[v, vc] w fun e w' => e = .returned (.bool true) ∧ ∃ tag', Fr (fun t => 1 ≤ t.1) tag tag' w w' := by
  have HS := fun {tag : Nat → Tag} {w : World} => @sane_ok tag w 1
  obtain ⟨vi, vl, rfl, hi, hie, hl⟩ := h.form
  obtain ⟨IA, icap, rfl, q1, q2⟩ := hi.slice
  obtain ⟨LA, lcap, rfl, q3, q4⟩ := hl.slice
  obtain ⟨CA, ccap, rfl, q5, q6⟩ := hc.slice
  unfold maxLen at q2 q6
  have hFa : Fr (fun _ => False) tag tag w (w.alloc (.cells #[.int .i64 places, .slice IA items.length icap, .slice LA l.length lcap] 75)) := Fr.alloc hok _
  have HFa := Lib.hid hFa
  have HW := Lib.hid (h.fr hFa (fun t h => h.elim))
  have HCR := Lib.hid (hc.frF hFa)
  have HCE := Lib.hid (hce.fr hFa)
  have hnew : (tag w.heap.size).1 = 0 := hok.new
  clear h hi hie hl hFa hc hce
  by_cases hb : fewB items.length l = false ∨ validB places items = false
  · have HB := Lib.hid hb
    clear hb
    go_enter Try.func8, Try.ntmps8
    go_wp2_with (first
    | (
      go_at_call 16
      refine (HS HFa.out.dom (by omega)).mono ?_
      rintro e w1 ⟨rfl, T1, hF1, hok1⟩
      have k0 : w1.cell? ⟨w.heap.size, 0, none⟩ = some (.int .i64 places) := hF1.cell (by go_simp) (by simp only [hnew]; omega)
      have k1 : w1.cell? ⟨w.heap.size, 1, none⟩ = some (.slice IA items.length icap) := hF1.cell (by go_simp) (by simp only [hnew]; omega)
      have k2 : w1.cell? ⟨w.heap.size, 2, none⟩ = some (.slice LA l.length lcap) := hF1.cell (by go_simp) (by simp only [hnew]; omega)
      have HT1 := Lib.hid (hF1.same w.heap.size (by simp))
      have HW1 := Lib.hid (HW.out.fr hF1 (fun t h => by omega))
      have HCR1 := Lib.hid (HCR.out.ext HCE.out hF1 (fun t h => by omega))
      have HCE1 := Lib.hid (HCE.out.fr hF1)
      have HF1 := Lib.hid ((HFa.out.mono (S' := fun t => 1 ≤ t.1) (fun _ h => h.elim)).trans (hF1.mono (fun t h => by omega)))
      clear hF1)
    | (
      go_at_call 39
      refine (begun_no HW1.out HF1.out.dom HB.out).mono ?_
      rintro e w2 ⟨rfl, hF2⟩
      have HF2 := Lib.hid (HF1.out.trans (hF2.mono (fun _ h => h.elim)))
      clear hF2))
    go_ret
    exact ⟨rfl, T1, HF2.out⟩
  · simp only [not_or, Bool.not_eq_false] at hb
    obtain ⟨hb1, hb2⟩ := hb
    have HB1 := Lib.hid hb1
    have HB2 := Lib.hid hb2
    have hn0 : (runG (beginG places.toNat items) l).n = items.length := by rw [runG_same]; rfl
    clear hb1 hb2
    by_cases hmany : 2000 < choices.length
    · have i8 : decide ((2000 : Int) < (choices.length : Int)) = true := decide_eq_true (by omega)
      clear hmany
      go_enter Try.func8, Try.ntmps8
      go_wp2_with (first
      | (
      go_at_call 16
      refine (HS HFa.out.dom (by omega)).mono ?_
      rintro e w1 ⟨rfl, T1, hF1, hok1⟩
      have k0 : w1.cell? ⟨w.heap.size, 0, none⟩ = some (.int .i64 places) := hF1.cell (by go_simp) (by simp only [hnew]; omega)
      have k1 : w1.cell? ⟨w.heap.size, 1, none⟩ = some (.slice IA items.length icap) := hF1.cell (by go_simp) (by simp only [hnew]; omega)
      have k2 : w1.cell? ⟨w.heap.size, 2, none⟩ = some (.slice LA l.length lcap) := hF1.cell (by go_simp) (by simp only [hnew]; omega)
      have HT1 := Lib.hid (hF1.same w.heap.size (by simp))
      have HW1 := Lib.hid (HW.out.fr hF1 (fun t h => by omega))
      have HCR1 := Lib.hid (HCR.out.ext HCE.out hF1 (fun t h => by omega))
      have HCE1 := Lib.hid (HCE.out.fr hF1)
      have HF1 := Lib.hid ((HFa.out.mono (S' := fun t => 1 ≤ t.1) (fun _ h => h.elim)).trans (hF1.mono (fun t h => by omega)))
      clear hF1)
      | (
      go_at_call 39
      refine (p_begun 100 HW1.out HF1.out.dom (by omega) HB1.out HB2.out).mono ?_
      rintro e w2 ⟨p, rfl, T2, hL2, hF2⟩
      have m1 : w2.cell? ⟨w.heap.size, 1, none⟩ = some (.slice IA items.length icap) := hF2.cell k1 (by simp only [HT1.out, hnew]; omega)
      have HT2 := Lib.hid ((hF2.same w.heap.size (World.block_lt_of_cell? w1 _ k0)).trans HT1.out)
      have HL2 := Lib.hid hL2
      have HCR2 := Lib.hid (HCR1.out.ext HCE1.out hF2 (fun t h => by omega))
      have HCE2 := Lib.hid (HCE1.out.fr hF2)
      have HF2 := Lib.hid (HF1.out.trans (hF2.mono (fun t h => by omega)))
      clear hF2 hL2 k0 k1 k2))
      go_ret
      exact ⟨rfl, T2, HF2.out⟩
    · have i8 : decide ((2000 : Int) < (choices.length : Int)) = false := decide_eq_false (by omega)
      have hc2000 : choices.length ≤ 2000 := by omega
      clear hmany
      have HN0 := Lib.hid hn0
      clear hn0
      go_enter Try.func8, Try.ntmps8
      go_wp2_with (first
      | (
      go_at_call 16
      refine (HS HFa.out.dom (by omega)).mono ?_
      rintro e w1 ⟨rfl, T1, hF1, hok1⟩
      have k0 : w1.cell? ⟨w.heap.size, 0, none⟩ = some (.int .i64 places) := hF1.cell (by go_simp) (by simp only [hnew]; omega)
      have k1 : w1.cell? ⟨w.heap.size, 1, none⟩ = some (.slice IA items.length icap) := hF1.cell (by go_simp) (by simp only [hnew]; omega)
      have k2 : w1.cell? ⟨w.heap.size, 2, none⟩ = some (.slice LA l.length lcap) := hF1.cell (by go_simp) (by simp only [hnew]; omega)
      have HT1 := Lib.hid (hF1.same w.heap.size (by simp))
      have HW1 := Lib.hid (HW.out.fr hF1 (fun t h => by omega))
      have HCR1 := Lib.hid (HCR.out.ext HCE.out hF1 (fun t h => by omega))
      have HCE1 := Lib.hid (HCE.out.fr hF1)
      have HF1 := Lib.hid ((HFa.out.mono (S' := fun t => 1 ≤ t.1) (fun _ h => h.elim)).trans (hF1.mono (fun t h => by omega)))
      clear hF1)
      | (
      go_at_call 39
      refine (p_begun 100 HW1.out HF1.out.dom (by omega) HB1.out HB2.out).mono ?_
      rintro e w2 ⟨p, rfl, T2, hL2, hF2⟩
      have m1 : w2.cell? ⟨w.heap.size, 1, none⟩ = some (.slice IA items.length icap) := hF2.cell k1 (by simp only [HT1.out, hnew]; omega)
      have HT2 := Lib.hid ((hF2.same w.heap.size (World.block_lt_of_cell? w1 _ k0)).trans HT1.out)
      have HL2 := Lib.hid hL2
      have HCR2 := Lib.hid (HCR1.out.ext HCE1.out hF2 (fun t h => by omega))
      have HCE2 := Lib.hid (HCE1.out.fr hF2)
      have HF2 := Lib.hid (HF1.out.trans (hF2.mono (fun t h => by omega)))
      clear hF2 hL2 k0 k1 k2)
      | (
        go_at_call 37
        refine (calm_ok choices HL2.out (by decide) HCR2.out HCE2.out (by omega)).mono ?_
        rintro e w3 ⟨rfl, m, T3, hfl, hm, hL3, hF3⟩
        have m3 : w3.cell? ⟨w.heap.size, 1, none⟩ = some (.slice IA items.length icap) := hF3.cell m1 (by simp only [HT2.out, hnew]; omega)
        have HL3 := Lib.hid hL3
        have HFL := Lib.hid hfl
        have HF3 := Lib.hid (HF2.out.trans (hF3.mono (fun t h => by omega)))
        have HT3 := Lib.hid ((hF3.same w.heap.size (World.block_lt_of_cell? w2 _ m1)).trans HT2.out)
        clear hL3 hfl hF3 m1))
      have hgn : (calmN choices (runG (beginG places.toNat items) l) m).1.n = items.length := by rw [(calmN_n _ _ _).1]; exact HN0.out
      generalize (calmN choices (runG (beginG places.toNat items) l) m).1 = g at HL3 HFL hgn
      have HN := Lib.hid hgn
      have HST := Lib.hid (still_of HFL.out)
      clear hgn hm
      go_wp2_with fail
      go_loopw [40] (fun i wr => ∃ n : Nat, n ≤ items.length ∧ i = .int .i64 n ∧ ∃ Tr : Nat → Tag, Hid (LiveP Tr 100 wr p g 80) ∧ Hid (Fr (fun t => 1 ≤ t.1) tag Tr w wr)) (fun i _ => items.length - (intOf i).toNat)
      case atStart => exact ⟨0, Nat.zero_le _, rfl, T3, HL3, HF3⟩
      case round =>
        obtain ⟨n, hn, rfl, Tr, HLr, HFr⟩ := hrel
        by_cases hlt : n < items.length
        · have HJ : Hid (n < g.n) := Lib.hid (by rw [HN.out]; exact hlt)
          have HFREE := Lib.hid (still_free HLr.out.good.inv HST.out n)
          go_wp2_with (first
          | (
            go_at_call 41
            refine (p_holder (j := n) HLr.out HJ.out).mono ?_
            rw [show holdI (g.items n) = -1 from by rw [holdI, HFREE.out.1]]
            rintro e w4 ⟨rfl, hF4⟩
            have HL4 := Lib.hid (HLr.out.frF hF4)
            have HF4 := Lib.hid (HFr.out.trans (hF4.mono (fun _ h => h.elim)))
            clear hF4)
          | (
            go_at_call 40
            refine (p_waits (j := n) 300 (by omega) HL4.out HJ.out (by decide)).mono ?_
            rintro e w5 ⟨v5, rfl, T5, i5, hrow, hF5⟩
            obtain ⟨A5, c5, h5, _, _⟩ := hrow.form
            rw [HFREE.out.2] at h5
            simp only [List.length_nil] at h5
            subst h5
            have HL5 := Lib.hid (HL4.out.frF hF5)
            have HF5 := Lib.hid (HF4.out.trans (hF5.mono (fun _ h => h.elim)))
            clear hF5 hrow))
          go_roundw
          case rel => exact ⟨n + 1, by omega, by go_num, T5, HL5, HF5⟩
          case measure => simp [intOf]; omega
        · have hnn : n = items.length := by omega
          subst hnn
          go_wp2_with (
            go_at_call 48
            refine (p_proposals 400 HLr.out (by omega) (by decide)).mono ?_
            rintro e w6 ⟨v6, vs, rfl, T6, hrow, _, hF6⟩
            obtain ⟨A6, c6, rfl, _, _⟩ := hrow.form
            have HL6 := Lib.hid (HLr.out.fr hF6 (fun t h => by omega))
            have HF6 := Lib.hid (HFr.out.trans (hF6.mono (fun t h => by omega)))
            clear hrow hF6)
          have hnp6 : g.np ≤ 80 := HL6.out.np
          go_loopw [74] (fun i wr => ∃ n : Nat, n ≤ g.np ∧ i = .int .i64 n ∧ ∃ Tr : Nat → Tag, Hid (LiveP Tr 100 wr p g 80) ∧ Hid (Fr (fun t => 1 ≤ t.1) tag Tr w wr)) (fun i _ => g.np - (intOf i).toNat)
          case atStart => exact ⟨0, Nat.zero_le _, rfl, T6, HL6, HF6⟩
          case round =>
            obtain ⟨n, hn, rfl, Tr, HLr, HFr⟩ := hrel
            by_cases hlt : n < g.np
            · have HS1 : Hid (((g.props n).st == 1) = false) := Lib.hid (by rw [beq_eq_false_iff_ne]; exact still_closed HLr.out.good.inv HST.out n)
              go_wp2_with (
                go_at_call 38
                refine (p_status (n := n) HLr.out hlt).mono ?_
                rintro e w7 ⟨rfl, hF7⟩
                have hs1 := HS1.out
                have HL7 := Lib.hid (HLr.out.frF hF7)
                have HF7 := Lib.hid (HFr.out.trans (hF7.mono (fun _ h => h.elim)))
                clear hF7)
              go_roundw
              case rel => exact ⟨n + 1, by omega, by go_num, Tr, HL7, HF7⟩
              case measure => simp [intOf]; omega
            · have hnn : n = g.np := by omega
              subst hnn
              go_wp2_with fail
              go_ret
              exact ⟨rfl, Tr, HFr.out⟩
end Go.Proofs.Ytclkokkppgchfaa

/- NegoCircle: the walk. -/
namespace Go.Proofs.Ytclkokkppgchfaa
open Go.RowKit Go.Ng Go.Proofs.YtclkokkppgchfaaW.PrintLast
set_option linter.unusedSimpArgs false
set_option linter.unusedVariables false
/-- The beginning of a list of things to do. -/
theorem OpsRd.pre {tag : Nat → Tag} {w : World} {A : Option Addr} {m cap : Nat} {l : List OpM} (h : OpsRd tag w (.slice A m cap) l) {i : Nat} (hi : i ≤ l.length) : OpsRd tag w (.slice A i cap) (l.take i) := by
  obtain ⟨xs, h1, h2, h3⟩ := h.rd
  subst h1
  simp only [List.length_map] at hi h2
  refine ⟨⟨xs.take i, by simp [List.map_take], ⟨?_, fun u hu => ?_, ?_⟩, fun x hx => h3 x (List.mem_of_mem_take hx)⟩, fun b off m' cap' hv => ?_⟩
  · rw [flat_len opCells 3 (fun _ => rfl)]; simp
  · refine h2.one u ?_
    simp only [List.mem_flatMap] at hu ⊢
    obtain ⟨y, hy, hu⟩ := hu
    exact ⟨y, List.mem_of_mem_take hy, hu⟩
  · have hl : ((xs.map (·.1)).take i).length = i := by simp; omega
    rw [hl]
    rcases h2.form with ⟨hv, hn⟩ | ⟨b, off, cap', hv, a1, a2, a3⟩
    · injection hv with b1 b2 b3
      subst b1 b3
      have : i = 0 := by omega
      subst this
      exact .inl ⟨rfl, rfl⟩
    · injection hv with b1 b2 b3
      subst b1 b3
      refine .inr ⟨b, off, cap, rfl, by omega, a2, fun j u hu => a3 j u ?_⟩
      have hsplit : xs.flatMap opCells = (xs.take i).flatMap opCells ++ (xs.drop i).flatMap opCells := by rw [← List.flatMap_append, List.take_append_drop]
      rw [hsplit, List.getElem?_append_left (List.getElem?_eq_some_iff.1 hu).1]
      exact hu
  · injection hv with b1 b2 b3
    subst b1
    exact h.ext b off m cap rfl
set_option maxRecDepth 100000 in
set_option maxHeartbeats 6400000 in
theorem negoCircle_ok {tag : Nat → Tag} {w : World} {v : Value} {places : Int} {items : List Int} {l : List OpM} (h : WorldRd tag w v places items l) (hok : TagOk tag w) :
    Calls Try.prog 6 #[v] w fun e w' => e = .returned (.bool true) ∧ ∃ tag', Fr (fun t => 1 ≤ t.1) tag tag' w w' := by
  have HS := fun {tag : Nat → Tag} {w : World} => @sane_ok tag w 1
  obtain ⟨vi, vl, rfl, hi, hie, hl⟩ := h.form
  obtain ⟨IA, icap, rfl, q1, q2⟩ := hi.slice
  obtain ⟨LA, lcap, rfl, q3, q4⟩ := hl.slice
  unfold maxLen at q2 q4
  have hFa : Fr (fun _ => False) tag tag w (w.alloc (.cells #[.int .i64 places, .slice IA items.length icap, .slice LA l.length lcap] 75)) := Fr.alloc hok _
  have HFa := Lib.hid hFa
  have HI := Lib.hid (hi.frF hFa)
  have HIE := Lib.hid (hie.fr hFa)
  have HL := Lib.hid (hl.fr hFa (fun t h => h.elim))
  have hnew : (tag w.heap.size).1 = 0 := hok.new
  clear h hi hie hl hFa
  obtain ⟨M, hM⟩ : ∃ M : Nat, M = min l.length 80 := ⟨_, rfl⟩
  have hM1 : M ≤ l.length := by omega
  have hM2 : M ≤ 80 := by omega
  go_enter Try.func6, Try.ntmps6
  go_upto_region 3 with (
      go_at_call 16
      refine (HS HFa.out.dom (by omega)).mono ?_
      rintro e w1 ⟨rfl, T1, hF1, hok1⟩
      have k0 : w1.cell? ⟨w.heap.size, 0, none⟩ = some (.int .i64 places) := hF1.cell (by go_simp) (by simp only [hnew]; omega)
      have k1 : w1.cell? ⟨w.heap.size, 1, none⟩ = some (.slice IA items.length icap) := hF1.cell (by go_simp) (by simp only [hnew]; omega)
      have k2 : w1.cell? ⟨w.heap.size, 2, none⟩ = some (.slice LA l.length lcap) := hF1.cell (by go_simp) (by simp only [hnew]; omega)
      have HT1 := Lib.hid (hF1.same w.heap.size (by simp))
      have HI1 := Lib.hid (HI.out.ext HIE.out hF1 (fun t h => by omega))
      have HIE1 := Lib.hid (HIE.out.fr hF1)
      have HL1 := Lib.hid (HL.out.fr hF1 (fun t h => by omega))
      have HF1 := Lib.hid ((HFa.out.mono (S' := fun t => 1 ≤ t.1) (fun _ h => h.elim)).trans (hF1.mono (fun t h => by omega)))
      clear hF1)
  go_cut [20, 21] (fun s i wx => s = .int .i64 ((M : Int) + 1) ∧ i = .int .i64 0 ∧ wx = w1)
  case first =>
    go_wp2_with fail
    all_goals
      go_meet
      case rel => refine ⟨?_, rfl, rfl⟩; congr 1; omega
  case rest =>
  obtain ⟨rfl, rfl, rfl⟩ := hcut
  clear hM
  have HK := Lib.hid (And.intro k0 (And.intro k1 k2))
  have HT := Lib.hid (HT1.out.trans (show tag w.heap.size = tag w.heap.size from rfl))
  clear k0 k1 k2
  go_wp2_with fail
  go_loopw [21] (fun i wr => ∃ n : Nat, n ≤ M + 1 ∧ i = .int .i64 n ∧ ∃ Tr : Nat → Tag, Hid (wr.cell? ⟨w.heap.size, 0, none⟩ = some (.int .i64 places) ∧ wr.cell? ⟨w.heap.size, 1, none⟩ = some (.slice IA items.length icap) ∧ wr.cell? ⟨w.heap.size, 2, none⟩ = some (.slice LA l.length lcap)) ∧ Hid (Tr w.heap.size = tag w.heap.size) ∧ Hid (Rd 1 wr (.slice IA items.length icap) items.length (ints items)) ∧ Hid (Ext Tr wr (.slice IA items.length icap)) ∧ Hid (OpsRd Tr wr (.slice LA l.length lcap) l) ∧ Hid (Fr (fun t => 1 ≤ t.1) tag Tr w wr)) (fun i _ => M + 1 - (intOf i).toNat)
  case atStart => exact ⟨0, Nat.zero_le _, rfl, T1, HK, HT1, HI1, HIE1, HL1, HF1⟩
  case round =>
    obtain ⟨n, hn, rfl, Tr, HKr, HTr, HIr, HIEr, HLr, HFr⟩ := hrel
    by_cases hlt : n < M + 1
    · have hnM : n ≤ M := by omega
      have hnl : n ≤ l.length := by omega
      obtain ⟨k0, k1, k2⟩ := HKr.out
      have i0 : (n : Int) < (M : Int) + 1 := by omega
      obtain ⟨skip, hskip⟩ : ∃ b : Bool, b = (((n : Int) % 3 != 0) && ((n : Int) != (l.length : Int))) := ⟨_, rfl⟩
      go_upto_region 6 with fail
      go_cut [33] (fun s wx => s = .bool skip ∧ wx = wr)
      case first =>
        go_wp2_with fail
        all_goals
          go_meet
          case rel => exact ⟨by rw [hskip]; (try simp [*]), rfl⟩
      case rest =>
      obtain ⟨rfl, rfl⟩ := hcut
      cases skip
      case true =>
        clear hskip
        go_wp2_with fail
        go_roundw
        case rel => exact ⟨n + 1, by omega, by go_num, Tr, HKr, HTr, HIr, HIEr, HLr, HFr⟩
        case measure => simp [intOf]; omega
      case false =>
      clear hskip
      have hokr := HFr.out.dom
      have hW : WorldRd Tr wc (.agg #[.int .i64 places, .slice IA items.length icap, .slice LA n lcap]) places items (l.take n) := ⟨_, _, rfl, HIr.out, HIEr.out, HLr.out.pre hnl⟩
      have hFd : Fr (fun _ => False) Tr Tr wc wc.drew := (Fr.refl hokr).dr
      have HWD := Lib.hid (hW.fr hFd (fun t h => h.elim))
      have HFD := Lib.hid hFd
      have HTW : Hid ((Tr w.heap.size).1 = 0) := Lib.hid (by rw [HTr.out]; exact hnew)
      have i5 : (0 : Int) ≤ (n : Int) := by omega
      have i7 : (n : Int) ≤ (lcap : Int) := by omega
      have hc3 : ¬ lcap = n ∨ lcap = n := by omega
      clear hW hFd hnl hokr
      by_cases hb : fewB items.length (l.take n) = false ∨ validB places items = false
      · have HB := Lib.hid hb
        clear hb
        go_wp2_with fail
        refine start_ (n := 15) (S := fun w' => w'.cell? ⟨w.heap.size, 0, none⟩ = some (.int .i64 places) ∧ w'.cell? ⟨w.heap.size, 1, none⟩ = some (.slice IA items.length icap) ∧ w'.cell? ⟨w.heap.size, 2, none⟩ = some (.slice LA l.length lcap)) (ds := [9]) #[false, false, false, false, false, false, false, false, false, false, false, false, false, false, false] (by kernel_rfl) rfl rfl ⟨k0, k1, k2⟩ (fun hHeld => ?_)
        refine pure_ (i := 0) (N := some 35) (v := ?_) (a' := ?_) #[true, false, false, false, false, false, false, false, false, false, false, false, false, false, false] rfl rfl (by kernel_rfl) (fun _ _ _ h => h) (Or.inl ⟨by rfl, ?_⟩) ?_ ?_
        rotate_left
        · intro w'
          go_simp
          with_reducible rfl
        rotate_left
        · simp only [Act.put, List.setIfInBounds_toArray, List.set_cons_zero, List.set_cons_succ, i64_w, i32_w]
          rfl
        refine pure_ (i := 2) (N := some 37) (v := ?_) (a' := ?_) #[true, false, true, false, false, false, false, false, false, false, false, false, false, false, false] rfl rfl (by kernel_rfl) (fun _ _ _ h => h) (Or.inl ⟨by rfl, ?_⟩) ?_ ?_
        rotate_left
        · intro w'
          go_simp
          with_reducible rfl
        rotate_left
        · simp only [Act.put, List.setIfInBounds_toArray, List.set_cons_zero, List.set_cons_succ, i64_w, i32_w]
          rfl
        refine pure_ (i := 4) (N := some 39) (v := ?_) (a' := ?_) #[true, false, true, false, true, false, false, false, false, false, false, false, false, false, false] rfl rfl (by kernel_rfl) (fun _ _ _ h => h) (Or.inl ⟨by rfl, ?_⟩) ?_ ?_
        rotate_left
        · intro w'
          go_simp
          with_reducible rfl
        rotate_left
        · simp only [Act.put, List.setIfInBounds_toArray, List.set_cons_zero, List.set_cons_succ, i64_w, i32_w]
          rfl
        refine pure_ (i := 6) (N := some 41) (v := ?_) (a' := ?_) #[true, false, true, false, true, false, true, false, false, false, false, false, false, false, false] rfl rfl (by kernel_rfl) (fun _ _ _ h => h) (Or.inl ⟨by rfl, ?_⟩) ?_ ?_
        rotate_left
        · intro w'
          go_simp
          with_reducible rfl
        rotate_left
        · simp only [Act.put, List.setIfInBounds_toArray, List.set_cons_zero, List.set_cons_succ, i64_w, i32_w]
          rfl
        refine take_ (i := 1) (N := some 36) (v := ?_) (a' := ?_) #[true, true, true, false, true, false, true, false, false, false, false, false, false, false, false] rfl rfl (by kernel_rfl) (fun _ _ _ h => h) (Or.inl ⟨by rfl, ?_⟩) hHeld ?_ ?_
        rotate_left
        · rintro w' ⟨s0, s1, s2⟩
          go_simp
          with_reducible rfl
        rotate_left
        · simp only [Act.put, List.setIfInBounds_toArray, List.set_cons_zero, List.set_cons_succ, i64_w, i32_w]
          rfl
        refine take_ (i := 3) (N := some 38) (v := ?_) (a' := ?_) #[true, true, true, true, true, false, true, false, false, false, false, false, false, false, false] rfl rfl (by kernel_rfl) (fun _ _ _ h => h) (Or.inl ⟨by rfl, ?_⟩) hHeld ?_ ?_
        rotate_left
        · rintro w' ⟨s0, s1, s2⟩
          go_simp
          with_reducible rfl
        rotate_left
        · simp only [Act.put, List.setIfInBounds_toArray, List.set_cons_zero, List.set_cons_succ, i64_w, i32_w]
          rfl
        refine take_ (i := 5) (N := some 40) (v := ?_) (a' := ?_) #[true, true, true, true, true, true, true, false, false, false, false, false, false, false, false] rfl rfl (by kernel_rfl) (fun _ _ _ h => h) (Or.inl ⟨by rfl, ?_⟩) hHeld ?_ ?_
        rotate_left
        · rintro w' ⟨s0, s1, s2⟩
          go_simp
          with_reducible rfl
        rotate_left
        · simp only [Act.put, List.setIfInBounds_toArray, List.set_cons_zero, List.set_cons_succ, i64_w, i32_w]
          rfl
        refine pure_ (i := 7) (N := some 42) (v := ?_) (a' := ?_) #[true, true, true, true, true, true, true, true, false, false, false, false, false, false, false] rfl rfl (by kernel_rfl) (fun _ _ _ h => h) (Or.inl ⟨by rfl, ?_⟩) ?_ ?_
        rotate_left
        · intro w'
          go_simp
          with_reducible rfl
        rotate_left
        · simp only [Act.put, List.setIfInBounds_toArray, List.set_cons_zero, List.set_cons_succ, i64_w, i32_w]
          rfl
        refine pure_ (i := 8) (N := some 43) (v := ?_) (a' := ?_) #[true, true, true, true, true, true, true, true, true, false, false, false, false, false, false] rfl rfl (by kernel_rfl) (fun _ _ _ h => h) (Or.inl ⟨by rfl, ?_⟩) ?_ ?_
        rotate_left
        · intro w'
          go_simp
          with_reducible rfl
        rotate_left
        · simp only [Act.put, List.setIfInBounds_toArray, List.set_cons_zero, List.set_cons_succ, i64_w, i32_w]
          rfl
        refine last_ (i := 9) (N := some 44) #[true, true, true, true, true, true, true, true, true, true, false, false, false, false, false] rfl rfl (by kernel_rfl) (by decide) (fun K hK => ?_)
        refine goes_ Try.func39 (by kernel_rfl) rfl #[.agg #[.int .i64 places, .slice IA items.length icap, .slice LA n lcap]] (by rfl) rfl rfl (by simp only [List.map_toArray, List.map_cons, List.map_nil]; rfl) ?_
        refine (begun_no HWD.out HFD.out.dom HB.out).mono ?_
        rintro e w2 ⟨rfl, hF2⟩
        have HF2 := Lib.hid (HFr.out.trans ((HFD.out.trans hF2).mono (fun _ h => h.elim)))
        clear hF2
        refine ⟨_, rfl, ?_⟩
        refine hK.out _ _ ?_
        clear hK K
        refine norm_ (a' := ?_) ?_ ?_
        rotate_left
        · show Act.put _ (some 44) _ = _
          simp only [Act.put, List.setIfInBounds_toArray, List.set_cons_zero, List.set_cons_succ, i64_w, i32_w]
          rfl
        refine pure_ (i := 10) (N := some 34) (v := ?_) (a' := ?_) #[true, true, true, true, true, true, true, true, true, true, true, false, false, false, false] rfl rfl (by kernel_rfl) (fun _ _ _ h => h) (Or.inl ⟨by rfl, ?_⟩) ?_ ?_
        rotate_left
        · intro w'
          go_simp
          with_reducible rfl
        rotate_left
        · simp only [Act.put, List.setIfInBounds_toArray, List.set_cons_zero, List.set_cons_succ, i64_w, i32_w]
          rfl
        refine pure_ (i := 11) (N := some 45) (v := ?_) (a' := ?_) #[true, true, true, true, true, true, true, true, true, true, true, true, false, false, false] rfl rfl (by kernel_rfl) (fun _ _ _ h => h) (Or.inl ⟨by rfl, ?_⟩) ?_ ?_
        rotate_left
        · intro w'
          go_simp
          with_reducible rfl
        rotate_left
        · simp only [Act.put, List.setIfInBounds_toArray, List.set_cons_zero, List.set_cons_succ, i64_w, i32_w]
          rfl
        refine pure_ (i := 12) (N := some 46) (v := ?_) (a' := ?_) #[true, true, true, true, true, true, true, true, true, true, true, true, true, false, false] rfl rfl (by kernel_rfl) (fun _ _ _ h => h) (Or.inl ⟨by rfl, ?_⟩) ?_ ?_
        rotate_left
        · intro w'
          go_simp
          with_reducible rfl
        rotate_left
        · simp only [Act.put, List.setIfInBounds_toArray, List.set_cons_zero, List.set_cons_succ, i64_w, i32_w]
          rfl
        refine pure_ (i := 13) (N := some 4) (v := ?_) (a' := ?_) #[true, true, true, true, true, true, true, true, true, true, true, true, true, true, false] rfl rfl (by kernel_rfl) (fun _ _ _ h => h) (Or.inl ⟨by rfl, ?_⟩) ?_ ?_
        rotate_left
        · intro w'
          go_simp
          with_reducible rfl
        rotate_left
        · simp only [Act.put, List.setIfInBounds_toArray, List.set_cons_zero, List.set_cons_succ, i64_w, i32_w]
          rfl
        refine pure_ (i := 14) (N := some 5) (v := ?_) (a' := ?_) #[true, true, true, true, true, true, true, true, true, true, true, true, true, true, true] rfl rfl (by kernel_rfl) (fun _ _ _ h => h) (Or.inl ⟨by rfl, ?_⟩) ?_ ?_
        rotate_left
        · intro w'
          go_simp
          with_reducible rfl
        rotate_left
        · simp only [Act.put, List.setIfInBounds_toArray, List.set_cons_zero, List.set_cons_succ, i64_w, i32_w]
          rfl
        refine done_ (by kernel_rfl) ?_
        clear hHeld
        go_wp2_with fail
        go_ret
        exact ⟨rfl, Tr, HF2.out⟩
      · simp only [not_or, Bool.not_eq_false] at hb
        obtain ⟨hb1, hb2⟩ := hb
        have HB1 := Lib.hid hb1
        have HB2 := Lib.hid hb2
        have hgn : (runG (beginG places.toNat items) (l.take n)).n = items.length := by rw [runG_same]; rfl
        clear hb1 hb2
        go_wp2_with fail
        refine start_ (n := 15) (S := fun w' => w'.cell? ⟨w.heap.size, 0, none⟩ = some (.int .i64 places) ∧ w'.cell? ⟨w.heap.size, 1, none⟩ = some (.slice IA items.length icap) ∧ w'.cell? ⟨w.heap.size, 2, none⟩ = some (.slice LA l.length lcap)) (ds := [9]) #[false, false, false, false, false, false, false, false, false, false, false, false, false, false, false] (by kernel_rfl) rfl rfl ⟨k0, k1, k2⟩ (fun hHeld => ?_)
        refine pure_ (i := 0) (N := some 35) (v := ?_) (a' := ?_) #[true, false, false, false, false, false, false, false, false, false, false, false, false, false, false] rfl rfl (by kernel_rfl) (fun _ _ _ h => h) (Or.inl ⟨by rfl, ?_⟩) ?_ ?_
        rotate_left
        · intro w'
          go_simp
          with_reducible rfl
        rotate_left
        · simp only [Act.put, List.setIfInBounds_toArray, List.set_cons_zero, List.set_cons_succ, i64_w, i32_w]
          rfl
        refine pure_ (i := 2) (N := some 37) (v := ?_) (a' := ?_) #[true, false, true, false, false, false, false, false, false, false, false, false, false, false, false] rfl rfl (by kernel_rfl) (fun _ _ _ h => h) (Or.inl ⟨by rfl, ?_⟩) ?_ ?_
        rotate_left
        · intro w'
          go_simp
          with_reducible rfl
        rotate_left
        · simp only [Act.put, List.setIfInBounds_toArray, List.set_cons_zero, List.set_cons_succ, i64_w, i32_w]
          rfl
        refine pure_ (i := 4) (N := some 39) (v := ?_) (a' := ?_) #[true, false, true, false, true, false, false, false, false, false, false, false, false, false, false] rfl rfl (by kernel_rfl) (fun _ _ _ h => h) (Or.inl ⟨by rfl, ?_⟩) ?_ ?_
        rotate_left
        · intro w'
          go_simp
          with_reducible rfl
        rotate_left
        · simp only [Act.put, List.setIfInBounds_toArray, List.set_cons_zero, List.set_cons_succ, i64_w, i32_w]
          rfl
        refine pure_ (i := 6) (N := some 41) (v := ?_) (a' := ?_) #[true, false, true, false, true, false, true, false, false, false, false, false, false, false, false] rfl rfl (by kernel_rfl) (fun _ _ _ h => h) (Or.inl ⟨by rfl, ?_⟩) ?_ ?_
        rotate_left
        · intro w'
          go_simp
          with_reducible rfl
        rotate_left
        · simp only [Act.put, List.setIfInBounds_toArray, List.set_cons_zero, List.set_cons_succ, i64_w, i32_w]
          rfl
        refine take_ (i := 1) (N := some 36) (v := ?_) (a' := ?_) #[true, true, true, false, true, false, true, false, false, false, false, false, false, false, false] rfl rfl (by kernel_rfl) (fun _ _ _ h => h) (Or.inl ⟨by rfl, ?_⟩) hHeld ?_ ?_
        rotate_left
        · rintro w' ⟨s0, s1, s2⟩
          go_simp
          with_reducible rfl
        rotate_left
        · simp only [Act.put, List.setIfInBounds_toArray, List.set_cons_zero, List.set_cons_succ, i64_w, i32_w]
          rfl
        refine take_ (i := 3) (N := some 38) (v := ?_) (a' := ?_) #[true, true, true, true, true, false, true, false, false, false, false, false, false, false, false] rfl rfl (by kernel_rfl) (fun _ _ _ h => h) (Or.inl ⟨by rfl, ?_⟩) hHeld ?_ ?_
        rotate_left
        · rintro w' ⟨s0, s1, s2⟩
          go_simp
          with_reducible rfl
        rotate_left
        · simp only [Act.put, List.setIfInBounds_toArray, List.set_cons_zero, List.set_cons_succ, i64_w, i32_w]
          rfl
        refine take_ (i := 5) (N := some 40) (v := ?_) (a' := ?_) #[true, true, true, true, true, true, true, false, false, false, false, false, false, false, false] rfl rfl (by kernel_rfl) (fun _ _ _ h => h) (Or.inl ⟨by rfl, ?_⟩) hHeld ?_ ?_
        rotate_left
        · rintro w' ⟨s0, s1, s2⟩
          go_simp
          with_reducible rfl
        rotate_left
        · simp only [Act.put, List.setIfInBounds_toArray, List.set_cons_zero, List.set_cons_succ, i64_w, i32_w]
          rfl
        refine pure_ (i := 7) (N := some 42) (v := ?_) (a' := ?_) #[true, true, true, true, true, true, true, true, false, false, false, false, false, false, false] rfl rfl (by kernel_rfl) (fun _ _ _ h => h) (Or.inl ⟨by rfl, ?_⟩) ?_ ?_
        rotate_left
        · intro w'
          go_simp
          with_reducible rfl
        rotate_left
        · simp only [Act.put, List.setIfInBounds_toArray, List.set_cons_zero, List.set_cons_succ, i64_w, i32_w]
          rfl
        refine pure_ (i := 8) (N := some 43) (v := ?_) (a' := ?_) #[true, true, true, true, true, true, true, true, true, false, false, false, false, false, false] rfl rfl (by kernel_rfl) (fun _ _ _ h => h) (Or.inl ⟨by rfl, ?_⟩) ?_ ?_
        rotate_left
        · intro w'
          go_simp
          with_reducible rfl
        rotate_left
        · simp only [Act.put, List.setIfInBounds_toArray, List.set_cons_zero, List.set_cons_succ, i64_w, i32_w]
          rfl
        refine last_ (i := 9) (N := some 44) #[true, true, true, true, true, true, true, true, true, true, false, false, false, false, false] rfl rfl (by kernel_rfl) (by decide) (fun K hK => ?_)
        refine goes_ Try.func39 (by kernel_rfl) rfl #[.agg #[.int .i64 places, .slice IA items.length icap, .slice LA n lcap]] (by rfl) rfl rfl (by simp only [List.map_toArray, List.map_cons, List.map_nil]; rfl) ?_
        refine (p_begun 100 HWD.out HFD.out.dom (by omega) HB1.out HB2.out).mono ?_
        rintro e w2 ⟨p, rfl, T2, hL2, hF2⟩
        have HL2 := Lib.hid hL2
        have HF2 := Lib.hid ((HFD.out.mono (S' := fun t => 1 ≤ t.1) (fun _ h => h.elim)).trans (hF2.mono (fun t h => by omega)))
        clear hL2 hF2
        refine ⟨_, rfl, ?_⟩
        refine hK.out _ _ ?_
        clear hK K
        refine norm_ (a' := ?_) ?_ ?_
        rotate_left
        · show Act.put _ (some 44) _ = _
          simp only [Act.put, List.setIfInBounds_toArray, List.set_cons_zero, List.set_cons_succ, i64_w, i32_w]
          rfl
        refine pure_ (i := 10) (N := some 34) (v := ?_) (a' := ?_) #[true, true, true, true, true, true, true, true, true, true, true, false, false, false, false] rfl rfl (by kernel_rfl) (fun _ _ _ h => h) (Or.inl ⟨by rfl, ?_⟩) ?_ ?_
        rotate_left
        · intro w'
          go_simp
          with_reducible rfl
        rotate_left
        · simp only [Act.put, List.setIfInBounds_toArray, List.set_cons_zero, List.set_cons_succ, i64_w, i32_w]
          rfl
        refine pure_ (i := 11) (N := some 45) (v := ?_) (a' := ?_) #[true, true, true, true, true, true, true, true, true, true, true, true, false, false, false] rfl rfl (by kernel_rfl) (fun _ _ _ h => h) (Or.inl ⟨by rfl, ?_⟩) ?_ ?_
        rotate_left
        · intro w'
          go_simp
          with_reducible rfl
        rotate_left
        · simp only [Act.put, List.setIfInBounds_toArray, List.set_cons_zero, List.set_cons_succ, i64_w, i32_w]
          rfl
        refine pure_ (i := 12) (N := some 46) (v := ?_) (a' := ?_) #[true, true, true, true, true, true, true, true, true, true, true, true, true, false, false] rfl rfl (by kernel_rfl) (fun _ _ _ h => h) (Or.inl ⟨by rfl, ?_⟩) ?_ ?_
        rotate_left
        · intro w'
          go_simp
          with_reducible rfl
        rotate_left
        · simp only [Act.put, List.setIfInBounds_toArray, List.set_cons_zero, List.set_cons_succ, i64_w, i32_w]
          rfl
        refine pure_ (i := 13) (N := some 4) (v := ?_) (a' := ?_) #[true, true, true, true, true, true, true, true, true, true, true, true, true, true, false] rfl rfl (by kernel_rfl) (fun _ _ _ h => h) (Or.inl ⟨by rfl, ?_⟩) ?_ ?_
        rotate_left
        · intro w'
          go_simp
          with_reducible rfl
        rotate_left
        · simp only [Act.put, List.setIfInBounds_toArray, List.set_cons_zero, List.set_cons_succ, i64_w, i32_w]
          rfl
        refine pure_ (i := 14) (N := some 5) (v := ?_) (a' := ?_) #[true, true, true, true, true, true, true, true, true, true, true, true, true, true, true] rfl rfl (by kernel_rfl) (fun _ _ _ h => h) (Or.inl ⟨by rfl, ?_⟩) ?_ ?_
        rotate_left
        · intro w'
          go_simp
          with_reducible rfl
        rotate_left
        · simp only [Act.put, List.setIfInBounds_toArray, List.set_cons_zero, List.set_cons_succ, i64_w, i32_w]
          rfl
        refine done_ (by kernel_rfl) ?_
        clear hHeld
        generalize runG (beginG places.toNat items) (l.take n) = g at HL2 hgn
        have HN := Lib.hid hgn
        clear hgn
        have HK2 := Lib.hid (And.intro (HF2.out.cell k0 (by simp only [HTW.out]; omega)) (And.intro (HF2.out.cell k1 (by simp only [HTW.out]; omega)) (HF2.out.cell k2 (by simp only [HTW.out]; omega))))
        have hnp : g.np ≤ 80 := HL2.out.np
        obtain ⟨c0, c1, c2⟩ := HK2.out
        go_wp2_with fail
        clear c0 c1 c2
        go_loopw [54] (fun i wq => ∃ k : Nat, k ≤ items.length ∧ i = .int .i64 k ∧ ∃ Tk : Nat → Tag, Hid (Fr (fun _ => False) T2 Tk w2 wq)) (fun i _ => items.length - (intOf i).toNat)
        case atStart => exact ⟨0, Nat.zero_le _, rfl, T2, Lib.hid (Fr.refl HF2.out.dom)⟩
        case round =>
          obtain ⟨k, hk, rfl, Tk, HFk⟩ := hrel
          by_cases hkt : k < items.length
          · have HJ : Hid (k < g.n) := Lib.hid (by rw [HN.out]; exact hkt)
            have hql : (g.items k).queue.length ≤ 80 := by have := queue_len HL2.out.good k; omega
            obtain ⟨qs, hqs⟩ : ∃ x, x = (g.items k).queue := ⟨_, rfl⟩
            rw [← hqs] at hql
            have HQ := Lib.hid hqs
            clear hqs
            go_wp2_with (
              go_at_call 40
              refine (p_waits (j := k) 300 (by omega) (HL2.out.frF HFk.out) HJ.out (by decide)).mono ?_
              rintro e w5 ⟨v5, rfl, T5, i5, hrow, hF5⟩
              rw [← HQ.out] at hrow
              obtain ⟨A5, c5, rfl, z3, z4⟩ := hrow.form
              unfold maxLen at z4
              have HR5 := Lib.hid hrow
              have HF5 := Lib.hid (HFk.out.trans hF5)
              clear hrow hF5)
            go_loopw [67] (fun i wq => ∃ m : Nat, m ≤ qs.length ∧ i = .int .i64 m ∧ ∃ Tq : Nat → Tag, Hid (Fr (fun _ => False) T5 Tq w5 wq)) (fun i _ => qs.length - (intOf i).toNat)
            case atStart => exact ⟨0, Nat.zero_le _, rfl, T5, Lib.hid (Fr.refl HF5.out.dom)⟩
            case round =>
              obtain ⟨m, hm, rfl, Tq, HFq⟩ := hrel
              by_cases hmt : m < qs.length
              · obtain ⟨x, hx⟩ : ∃ x, qs[m]? = some x := ⟨_, List.getElem?_eq_getElem hmt⟩
                obtain ⟨b5, rfl, _, _, hcell⟩ := (HR5.out.fr HFq.out (fun x => x)).cell rfl (j := m) (by simpa [ints] using hmt)
                have e0 : wr.cell? ⟨b5, m, none⟩ = some (.int .i64 x) := by rw [hcell, ints, List.getElem?_map, hx]; rfl
                have hmem : x ∈ (g.items k).queue := by rw [← HQ.out]; exact List.mem_of_getElem? hx
                have HM := Lib.hid hmem
                have i8 : (0 : Int) ≤ (m : Int) := by omega
                have i9 : (m : Int) < (qs.length : Int) := by omega
                have HF25 := Lib.hid (HF5.out.trans HFq.out)
                clear hx hcell hmem
                go_wp2_with fail
                go_loopw [11] (fun i wq => ∃ j : Nat, k ≤ j ∧ j ≤ items.length ∧ i = .int .i64 j ∧ Hid (Fr (fun _ => False) Tq Tq wr wq)) (fun i _ => items.length - (intOf i).toNat)
                case atStart => exact ⟨k, Nat.le_refl _, by omega, rfl, Lib.hid (Fr.refl HFq.out.dom)⟩
                case round =>
                  obtain ⟨j, hj, hj2, rfl, HFj⟩ := hrel
                  have c1 : wr.cell? ⟨w.heap.size, 1, none⟩ = some (.slice IA items.length icap) := (HF25.out.trans HFj.out).cellF HK2.out.2.1
                  by_cases hjt : j < items.length
                  · have HJ2 : Hid (j < g.n) := Lib.hid (by rw [HN.out]; exact hjt)
                    obtain ⟨ho, hho⟩ : ∃ y, y = holdI (g.items j) := ⟨_, rfl⟩
                    have hne : (ho == x) = false := by
                      rw [beq_eq_false_iff_ne, hho, holdI]
                      have hc := circle HL2.out.good.inv HM.out (j' := j) (by omega)
                      split
                      · rename_i q hq
                        rintro rfl
                        exact hc hq
                      · rintro rfl
                        obtain ⟨i1, _, hcl⟩ := HL2.out.good.inv.qcl _ _ HM.out
                        have := HL2.out.good.inv.rng _ _ _ hcl
                        omega
                    have HHO := Lib.hid hho
                    have i10 : (j : Int) < (items.length : Int) := by omega
                    clear hho
                    go_wp2_with (
                      go_at_call 41
                      refine (p_holder (j := j) (HL2.out.frF (HF25.out.trans HFj.out)) HJ2.out).mono ?_
                      rw [← HHO.out]
                      rintro e w8 ⟨rfl, hF8⟩
                      have HF8 := Lib.hid (HFj.out.trans hF8)
                      clear hF8)
                    go_roundw
                    case rel => exact ⟨j + 1, by omega, by omega, by go_num, HF8⟩
                    case measure => simp [intOf]; omega
                  · have hjj : j = items.length := by omega
                    subst hjj
                    go_wp2_with fail
                    go_roundw
                    case rel => exact ⟨m + 1, by omega, by go_num, Tq, Lib.hid (HFq.out.trans HFj.out)⟩
                    case measure => simp [intOf]; omega
              · have hmm : m = qs.length := by omega
                subst hmm
                go_wp2_with fail
                go_roundw
                case rel => exact ⟨k + 1, by omega, by go_num, Tq, Lib.hid (HF5.out.trans HFq.out)⟩
                case measure => simp [intOf]; omega
          · have hkk : k = items.length := by omega
            subst hkk
            have HFC := Lib.hid (HF2.out.trans (HFk.out.mono (S' := fun t => 1 ≤ t.1) (fun _ h => h.elim)))
            go_wp2_with fail
            go_roundw
            case rel =>
              have hfc := HFC.out
              exact ⟨n + 1, by omega, by go_num, Tk, Lib.hid ⟨hfc.cell k0 (by simp only [HTW.out]; omega), hfc.cell k1 (by simp only [HTW.out]; omega), hfc.cell k2 (by simp only [HTW.out]; omega)⟩, Lib.hid ((hfc.same _ (World.block_lt_of_cell? _ _ k0)).trans HTr.out), Lib.hid (HIr.out.ext HIEr.out hfc (fun t h => by omega)), Lib.hid (HIEr.out.fr hfc), Lib.hid (HLr.out.fr hfc (fun t h => by omega)), Lib.hid (HFr.out.trans hfc)⟩
            case measure => simp [intOf]; omega
    · have hnn : n = M + 1 := by omega
      subst hnn
      go_wp2_with fail
      go_ret
      exact ⟨rfl, Tr, HFr.out⟩
end Go.Proofs.Ytclkokkppgchfaa

/- NegoMoment: the walk. -/
namespace Go.Proofs.Ytclkokkppgchfaa
open Go.RowKit Go.Ng Go.Proofs.YtclkokkppgchfaaW.PrintLast
set_option linter.unusedSimpArgs false
set_option linter.unusedVariables false
set_option maxRecDepth 100000 in
set_option maxHeartbeats 6400000 in
theorem negoMoment_ok {tag : Nat → Tag} {w : World} {v : Value} {places : Int} {items : List Int} {l : List OpM} (h : WorldRd tag w v places items l) (hok : TagOk tag w) :
    Calls Try.prog 15 #[v] w fun e w' => e = .returned (.bool true) ∧ ∃ tag', Fr (fun t => 1 ≤ t.1) tag tag' w w' := by
  have HS := fun {tag : Nat → Tag} {w : World} => @sane_ok tag w 1
  obtain ⟨vi, vl, rfl, hi, hie, hl⟩ := h.form
  obtain ⟨IA, icap, rfl, q1, q2⟩ := hi.slice
  obtain ⟨LA, lcap, rfl, q3, q4⟩ := hl.slice
  unfold maxLen at q2 q4
  have hFa : Fr (fun _ => False) tag tag w (w.alloc (.cells #[.int .i64 places, .slice IA items.length icap, .slice LA l.length lcap] 75)) := Fr.alloc hok _
  have HFa := Lib.hid hFa
  have HI := Lib.hid (hi.frF hFa)
  have HIE := Lib.hid (hie.fr hFa)
  have HL := Lib.hid (hl.fr hFa (fun t h => h.elim))
  have hnew : (tag w.heap.size).1 = 0 := hok.new
  clear h hi hie hl hFa
  obtain ⟨M, hM⟩ : ∃ M : Nat, M = min l.length 80 := ⟨_, rfl⟩
  have hM1 : M ≤ l.length := by omega
  have hM2 : M ≤ 80 := by omega
  go_enter Try.func15, Try.ntmps15
  go_upto_region 3 with (
      go_at_call 16
      refine (HS HFa.out.dom (by omega)).mono ?_
      rintro e w1 ⟨rfl, T1, hF1, hok1⟩
      have k0 : w1.cell? ⟨w.heap.size, 0, none⟩ = some (.int .i64 places) := hF1.cell (by go_simp) (by simp only [hnew]; omega)
      have k1 : w1.cell? ⟨w.heap.size, 1, none⟩ = some (.slice IA items.length icap) := hF1.cell (by go_simp) (by simp only [hnew]; omega)
      have k2 : w1.cell? ⟨w.heap.size, 2, none⟩ = some (.slice LA l.length lcap) := hF1.cell (by go_simp) (by simp only [hnew]; omega)
      have HT1 := Lib.hid (hF1.same w.heap.size (by simp))
      have HI1 := Lib.hid (HI.out.ext HIE.out hF1 (fun t h => by omega))
      have HIE1 := Lib.hid (HIE.out.fr hF1)
      have HL1 := Lib.hid (HL.out.fr hF1 (fun t h => by omega))
      have HF1 := Lib.hid ((HFa.out.mono (S' := fun t => 1 ≤ t.1) (fun _ h => h.elim)).trans (hF1.mono (fun t h => by omega)))
      clear hF1)
  go_cut [21, 22] (fun s i wx => s = .int .i64 ((M : Int) + 1) ∧ i = .int .i64 0 ∧ wx = w1)
  case first =>
    go_wp2_with fail
    all_goals
      go_meet
      case rel => refine ⟨?_, rfl, rfl⟩; congr 1; omega
  case rest =>
  obtain ⟨rfl, rfl, rfl⟩ := hcut
  clear hM
  have HK := Lib.hid (And.intro k0 (And.intro k1 k2))
  have HT := Lib.hid (HT1.out.trans (show tag w.heap.size = tag w.heap.size from rfl))
  clear k0 k1 k2
  go_wp2_with fail
  go_loopw [22] (fun i wr => ∃ n : Nat, n ≤ M + 1 ∧ i = .int .i64 n ∧ ∃ Tr : Nat → Tag, Hid (wr.cell? ⟨w.heap.size, 0, none⟩ = some (.int .i64 places) ∧ wr.cell? ⟨w.heap.size, 1, none⟩ = some (.slice IA items.length icap) ∧ wr.cell? ⟨w.heap.size, 2, none⟩ = some (.slice LA l.length lcap)) ∧ Hid (Tr w.heap.size = tag w.heap.size) ∧ Hid (Rd 1 wr (.slice IA items.length icap) items.length (ints items)) ∧ Hid (Ext Tr wr (.slice IA items.length icap)) ∧ Hid (OpsRd Tr wr (.slice LA l.length lcap) l) ∧ Hid (Fr (fun t => 1 ≤ t.1) tag Tr w wr)) (fun i _ => M + 1 - (intOf i).toNat)
  case atStart => exact ⟨0, Nat.zero_le _, rfl, T1, HK, HT1, HI1, HIE1, HL1, HF1⟩
  case round =>
    obtain ⟨n, hn, rfl, Tr, HKr, HTr, HIr, HIEr, HLr, HFr⟩ := hrel
    by_cases hlt : n < M + 1
    · have hnM : n ≤ M := by omega
      have hnl : n ≤ l.length := by omega
      obtain ⟨k0, k1, k2⟩ := HKr.out
      have i0 : (n : Int) < (M : Int) + 1 := by omega
      obtain ⟨skip, hskip⟩ : ∃ b : Bool, b = (((n : Int) % 3 != 0) && ((n : Int) != (l.length : Int))) := ⟨_, rfl⟩
      go_upto_region 6 with fail
      go_cut [34] (fun s wx => s = .bool skip ∧ wx = wr)
      case first =>
        go_wp2_with fail
        all_goals
          go_meet
          case rel => exact ⟨by rw [hskip]; (try simp [*]), rfl⟩
      case rest =>
      obtain ⟨rfl, rfl⟩ := hcut
      cases skip
      case true =>
        clear hskip
        go_wp2_with fail
        go_roundw
        case rel => exact ⟨n + 1, by omega, by go_num, Tr, HKr, HTr, HIr, HIEr, HLr, HFr⟩
        case measure => simp [intOf]; omega
      case false =>
      clear hskip
      have hokr := HFr.out.dom
      have hW : WorldRd Tr wc (.agg #[.int .i64 places, .slice IA items.length icap, .slice LA n lcap]) places items (l.take n) := ⟨_, _, rfl, HIr.out, HIEr.out, HLr.out.pre hnl⟩
      have hFd : Fr (fun _ => False) Tr Tr wc wc.drew := (Fr.refl hokr).dr
      have HWD := Lib.hid (hW.fr hFd (fun t h => h.elim))
      have HFD := Lib.hid hFd
      have HTW : Hid ((Tr w.heap.size).1 = 0) := Lib.hid (by rw [HTr.out]; exact hnew)
      have i5 : (0 : Int) ≤ (n : Int) := by omega
      have i7 : (n : Int) ≤ (lcap : Int) := by omega
      have hc3 : ¬ lcap = n ∨ lcap = n := by omega
      clear hW hFd hnl hokr
      by_cases hb : fewB items.length (l.take n) = false ∨ validB places items = false
      · have HB := Lib.hid hb
        clear hb
        go_wp2_with fail
        refine start_ (n := 15) (S := fun w' => w'.cell? ⟨w.heap.size, 0, none⟩ = some (.int .i64 places) ∧ w'.cell? ⟨w.heap.size, 1, none⟩ = some (.slice IA items.length icap) ∧ w'.cell? ⟨w.heap.size, 2, none⟩ = some (.slice LA l.length lcap)) (ds := [9]) #[false, false, false, false, false, false, false, false, false, false, false, false, false, false, false] (by kernel_rfl) rfl rfl ⟨k0, k1, k2⟩ (fun hHeld => ?_)
        refine pure_ (i := 0) (N := some 36) (v := ?_) (a' := ?_) #[true, false, false, false, false, false, false, false, false, false, false, false, false, false, false] rfl rfl (by kernel_rfl) (fun _ _ _ h => h) (Or.inl ⟨by rfl, ?_⟩) ?_ ?_
        rotate_left
        · intro w'
          go_simp
          with_reducible rfl
        rotate_left
        · simp only [Act.put, List.setIfInBounds_toArray, List.set_cons_zero, List.set_cons_succ, i64_w, i32_w]
          rfl
        refine pure_ (i := 2) (N := some 38) (v := ?_) (a' := ?_) #[true, false, true, false, false, false, false, false, false, false, false, false, false, false, false] rfl rfl (by kernel_rfl) (fun _ _ _ h => h) (Or.inl ⟨by rfl, ?_⟩) ?_ ?_
        rotate_left
        · intro w'
          go_simp
          with_reducible rfl
        rotate_left
        · simp only [Act.put, List.setIfInBounds_toArray, List.set_cons_zero, List.set_cons_succ, i64_w, i32_w]
          rfl
        refine pure_ (i := 4) (N := some 40) (v := ?_) (a' := ?_) #[true, false, true, false, true, false, false, false, false, false, false, false, false, false, false] rfl rfl (by kernel_rfl) (fun _ _ _ h => h) (Or.inl ⟨by rfl, ?_⟩) ?_ ?_
        rotate_left
        · intro w'
          go_simp
          with_reducible rfl
        rotate_left
        · simp only [Act.put, List.setIfInBounds_toArray, List.set_cons_zero, List.set_cons_succ, i64_w, i32_w]
          rfl
        refine pure_ (i := 6) (N := some 42) (v := ?_) (a' := ?_) #[true, false, true, false, true, false, true, false, false, false, false, false, false, false, false] rfl rfl (by kernel_rfl) (fun _ _ _ h => h) (Or.inl ⟨by rfl, ?_⟩) ?_ ?_
        rotate_left
        · intro w'
          go_simp
          with_reducible rfl
        rotate_left
        · simp only [Act.put, List.setIfInBounds_toArray, List.set_cons_zero, List.set_cons_succ, i64_w, i32_w]
          rfl
        refine take_ (i := 1) (N := some 37) (v := ?_) (a' := ?_) #[true, true, true, false, true, false, true, false, false, false, false, false, false, false, false] rfl rfl (by kernel_rfl) (fun _ _ _ h => h) (Or.inl ⟨by rfl, ?_⟩) hHeld ?_ ?_
        rotate_left
        · rintro w' ⟨s0, s1, s2⟩
          go_simp
          with_reducible rfl
        rotate_left
        · simp only [Act.put, List.setIfInBounds_toArray, List.set_cons_zero, List.set_cons_succ, i64_w, i32_w]
          rfl
        refine take_ (i := 3) (N := some 39) (v := ?_) (a' := ?_) #[true, true, true, true, true, false, true, false, false, false, false, false, false, false, false] rfl rfl (by kernel_rfl) (fun _ _ _ h => h) (Or.inl ⟨by rfl, ?_⟩) hHeld ?_ ?_
        rotate_left
        · rintro w' ⟨s0, s1, s2⟩
          go_simp
          with_reducible rfl
        rotate_left
        · simp only [Act.put, List.setIfInBounds_toArray, List.set_cons_zero, List.set_cons_succ, i64_w, i32_w]
          rfl
        refine take_ (i := 5) (N := some 41) (v := ?_) (a' := ?_) #[true, true, true, true, true, true, true, false, false, false, false, false, false, false, false] rfl rfl (by kernel_rfl) (fun _ _ _ h => h) (Or.inl ⟨by rfl, ?_⟩) hHeld ?_ ?_
        rotate_left
        · rintro w' ⟨s0, s1, s2⟩
          go_simp
          with_reducible rfl
        rotate_left
        · simp only [Act.put, List.setIfInBounds_toArray, List.set_cons_zero, List.set_cons_succ, i64_w, i32_w]
          rfl
        refine pure_ (i := 7) (N := some 43) (v := ?_) (a' := ?_) #[true, true, true, true, true, true, true, true, false, false, false, false, false, false, false] rfl rfl (by kernel_rfl) (fun _ _ _ h => h) (Or.inl ⟨by rfl, ?_⟩) ?_ ?_
        rotate_left
        · intro w'
          go_simp
          with_reducible rfl
        rotate_left
        · simp only [Act.put, List.setIfInBounds_toArray, List.set_cons_zero, List.set_cons_succ, i64_w, i32_w]
          rfl
        refine pure_ (i := 8) (N := some 44) (v := ?_) (a' := ?_) #[true, true, true, true, true, true, true, true, true, false, false, false, false, false, false] rfl rfl (by kernel_rfl) (fun _ _ _ h => h) (Or.inl ⟨by rfl, ?_⟩) ?_ ?_
        rotate_left
        · intro w'
          go_simp
          with_reducible rfl
        rotate_left
        · simp only [Act.put, List.setIfInBounds_toArray, List.set_cons_zero, List.set_cons_succ, i64_w, i32_w]
          rfl
        refine last_ (i := 9) (N := some 45) #[true, true, true, true, true, true, true, true, true, true, false, false, false, false, false] rfl rfl (by kernel_rfl) (by decide) (fun K hK => ?_)
        refine goes_ Try.func39 (by kernel_rfl) rfl #[.agg #[.int .i64 places, .slice IA items.length icap, .slice LA n lcap]] (by rfl) rfl rfl (by simp only [List.map_toArray, List.map_cons, List.map_nil]; rfl) ?_
        refine (begun_no HWD.out HFD.out.dom HB.out).mono ?_
        rintro e w2 ⟨rfl, hF2⟩
        have HF2 := Lib.hid (HFr.out.trans ((HFD.out.trans hF2).mono (fun _ h => h.elim)))
        clear hF2
        refine ⟨_, rfl, ?_⟩
        refine hK.out _ _ ?_
        clear hK K
        refine norm_ (a' := ?_) ?_ ?_
        rotate_left
        · show Act.put _ (some 45) _ = _
          simp only [Act.put, List.setIfInBounds_toArray, List.set_cons_zero, List.set_cons_succ, i64_w, i32_w]
          rfl
        refine pure_ (i := 10) (N := some 35) (v := ?_) (a' := ?_) #[true, true, true, true, true, true, true, true, true, true, true, false, false, false, false] rfl rfl (by kernel_rfl) (fun _ _ _ h => h) (Or.inl ⟨by rfl, ?_⟩) ?_ ?_
        rotate_left
        · intro w'
          go_simp
          with_reducible rfl
        rotate_left
        · simp only [Act.put, List.setIfInBounds_toArray, List.set_cons_zero, List.set_cons_succ, i64_w, i32_w]
          rfl
        refine pure_ (i := 11) (N := some 46) (v := ?_) (a' := ?_) #[true, true, true, true, true, true, true, true, true, true, true, true, false, false, false] rfl rfl (by kernel_rfl) (fun _ _ _ h => h) (Or.inl ⟨by rfl, ?_⟩) ?_ ?_
        rotate_left
        · intro w'
          go_simp
          with_reducible rfl
        rotate_left
        · simp only [Act.put, List.setIfInBounds_toArray, List.set_cons_zero, List.set_cons_succ, i64_w, i32_w]
          rfl
        refine pure_ (i := 12) (N := some 47) (v := ?_) (a' := ?_) #[true, true, true, true, true, true, true, true, true, true, true, true, true, false, false] rfl rfl (by kernel_rfl) (fun _ _ _ h => h) (Or.inl ⟨by rfl, ?_⟩) ?_ ?_
        rotate_left
        · intro w'
          go_simp
          with_reducible rfl
        rotate_left
        · simp only [Act.put, List.setIfInBounds_toArray, List.set_cons_zero, List.set_cons_succ, i64_w, i32_w]
          rfl
        refine pure_ (i := 13) (N := some 4) (v := ?_) (a' := ?_) #[true, true, true, true, true, true, true, true, true, true, true, true, true, true, false] rfl rfl (by kernel_rfl) (fun _ _ _ h => h) (Or.inl ⟨by rfl, ?_⟩) ?_ ?_
        rotate_left
        · intro w'
          go_simp
          with_reducible rfl
        rotate_left
        · simp only [Act.put, List.setIfInBounds_toArray, List.set_cons_zero, List.set_cons_succ, i64_w, i32_w]
          rfl
        refine pure_ (i := 14) (N := some 5) (v := ?_) (a' := ?_) #[true, true, true, true, true, true, true, true, true, true, true, true, true, true, true] rfl rfl (by kernel_rfl) (fun _ _ _ h => h) (Or.inl ⟨by rfl, ?_⟩) ?_ ?_
        rotate_left
        · intro w'
          go_simp
          with_reducible rfl
        rotate_left
        · simp only [Act.put, List.setIfInBounds_toArray, List.set_cons_zero, List.set_cons_succ, i64_w, i32_w]
          rfl
        refine done_ (by kernel_rfl) ?_
        clear hHeld
        go_wp2_with fail
        go_ret
        exact ⟨rfl, Tr, HF2.out⟩
      · simp only [not_or, Bool.not_eq_false] at hb
        obtain ⟨hb1, hb2⟩ := hb
        have HB1 := Lib.hid hb1
        have HB2 := Lib.hid hb2
        have hgn : (runG (beginG places.toNat items) (l.take n)).n = items.length := by rw [runG_same]; rfl
        clear hb1 hb2
        go_wp2_with fail
        refine start_ (n := 15) (S := fun w' => w'.cell? ⟨w.heap.size, 0, none⟩ = some (.int .i64 places) ∧ w'.cell? ⟨w.heap.size, 1, none⟩ = some (.slice IA items.length icap) ∧ w'.cell? ⟨w.heap.size, 2, none⟩ = some (.slice LA l.length lcap)) (ds := [9]) #[false, false, false, false, false, false, false, false, false, false, false, false, false, false, false] (by kernel_rfl) rfl rfl ⟨k0, k1, k2⟩ (fun hHeld => ?_)
        refine pure_ (i := 0) (N := some 36) (v := ?_) (a' := ?_) #[true, false, false, false, false, false, false, false, false, false, false, false, false, false, false] rfl rfl (by kernel_rfl) (fun _ _ _ h => h) (Or.inl ⟨by rfl, ?_⟩) ?_ ?_
        rotate_left
        · intro w'
          go_simp
          with_reducible rfl
        rotate_left
        · simp only [Act.put, List.setIfInBounds_toArray, List.set_cons_zero, List.set_cons_succ, i64_w, i32_w]
          rfl
        refine pure_ (i := 2) (N := some 38) (v := ?_) (a' := ?_) #[true, false, true, false, false, false, false, false, false, false, false, false, false, false, false] rfl rfl (by kernel_rfl) (fun _ _ _ h => h) (Or.inl ⟨by rfl, ?_⟩) ?_ ?_
        rotate_left
        · intro w'
          go_simp
          with_reducible rfl
        rotate_left
        · simp only [Act.put, List.setIfInBounds_toArray, List.set_cons_zero, List.set_cons_succ, i64_w, i32_w]
          rfl
        refine pure_ (i := 4) (N := some 40) (v := ?_) (a' := ?_) #[true, false, true, false, true, false, false, false, false, false, false, false, false, false, false] rfl rfl (by kernel_rfl) (fun _ _ _ h => h) (Or.inl ⟨by rfl, ?_⟩) ?_ ?_
        rotate_left
        · intro w'
          go_simp
          with_reducible rfl
        rotate_left
        · simp only [Act.put, List.setIfInBounds_toArray, List.set_cons_zero, List.set_cons_succ, i64_w, i32_w]
          rfl
        refine pure_ (i := 6) (N := some 42) (v := ?_) (a' := ?_) #[true, false, true, false, true, false, true, false, false, false, false, false, false, false, false] rfl rfl (by kernel_rfl) (fun _ _ _ h => h) (Or.inl ⟨by rfl, ?_⟩) ?_ ?_
        rotate_left
        · intro w'
          go_simp
          with_reducible rfl
        rotate_left
        · simp only [Act.put, List.setIfInBounds_toArray, List.set_cons_zero, List.set_cons_succ, i64_w, i32_w]
          rfl
        refine take_ (i := 1) (N := some 37) (v := ?_) (a' := ?_) #[true, true, true, false, true, false, true, false, false, false, false, false, false, false, false] rfl rfl (by kernel_rfl) (fun _ _ _ h => h) (Or.inl ⟨by rfl, ?_⟩) hHeld ?_ ?_
        rotate_left
        · rintro w' ⟨s0, s1, s2⟩
          go_simp
          with_reducible rfl
        rotate_left
        · simp only [Act.put, List.setIfInBounds_toArray, List.set_cons_zero, List.set_cons_succ, i64_w, i32_w]
          rfl
        refine take_ (i := 3) (N := some 39) (v := ?_) (a' := ?_) #[true, true, true, true, true, false, true, false, false, false, false, false, false, false, false] rfl rfl (by kernel_rfl) (fun _ _ _ h => h) (Or.inl ⟨by rfl, ?_⟩) hHeld ?_ ?_
        rotate_left
        · rintro w' ⟨s0, s1, s2⟩
          go_simp
          with_reducible rfl
        rotate_left
        · simp only [Act.put, List.setIfInBounds_toArray, List.set_cons_zero, List.set_cons_succ, i64_w, i32_w]
          rfl
        refine take_ (i := 5) (N := some 41) (v := ?_) (a' := ?_) #[true, true, true, true, true, true, true, false, false, false, false, false, false, false, false] rfl rfl (by kernel_rfl) (fun _ _ _ h => h) (Or.inl ⟨by rfl, ?_⟩) hHeld ?_ ?_
        rotate_left
        · rintro w' ⟨s0, s1, s2⟩
          go_simp
          with_reducible rfl
        rotate_left
        · simp only [Act.put, List.setIfInBounds_toArray, List.set_cons_zero, List.set_cons_succ, i64_w, i32_w]
          rfl
        refine pure_ (i := 7) (N := some 43) (v := ?_) (a' := ?_) #[true, true, true, true, true, true, true, true, false, false, false, false, false, false, false] rfl rfl (by kernel_rfl) (fun _ _ _ h => h) (Or.inl ⟨by rfl, ?_⟩) ?_ ?_
        rotate_left
        · intro w'
          go_simp
          with_reducible rfl
        rotate_left
        · simp only [Act.put, List.setIfInBounds_toArray, List.set_cons_zero, List.set_cons_succ, i64_w, i32_w]
          rfl
        refine pure_ (i := 8) (N := some 44) (v := ?_) (a' := ?_) #[true, true, true, true, true, true, true, true, true, false, false, false, false, false, false] rfl rfl (by kernel_rfl) (fun _ _ _ h => h) (Or.inl ⟨by rfl, ?_⟩) ?_ ?_
        rotate_left
        · intro w'
          go_simp
          with_reducible rfl
        rotate_left
        · simp only [Act.put, List.setIfInBounds_toArray, List.set_cons_zero, List.set_cons_succ, i64_w, i32_w]
          rfl
        refine last_ (i := 9) (N := some 45) #[true, true, true, true, true, true, true, true, true, true, false, false, false, false, false] rfl rfl (by kernel_rfl) (by decide) (fun K hK => ?_)
        refine goes_ Try.func39 (by kernel_rfl) rfl #[.agg #[.int .i64 places, .slice IA items.length icap, .slice LA n lcap]] (by rfl) rfl rfl (by simp only [List.map_toArray, List.map_cons, List.map_nil]; rfl) ?_
        refine (p_begun 100 HWD.out HFD.out.dom (by omega) HB1.out HB2.out).mono ?_
        rintro e w2 ⟨p, rfl, T2, hL2, hF2⟩
        have HL2 := Lib.hid hL2
        have HF2 := Lib.hid ((HFD.out.mono (S' := fun t => 1 ≤ t.1) (fun _ h => h.elim)).trans (hF2.mono (fun t h => by omega)))
        clear hL2 hF2
        refine ⟨_, rfl, ?_⟩
        refine hK.out _ _ ?_
        clear hK K
        refine norm_ (a' := ?_) ?_ ?_
        rotate_left
        · show Act.put _ (some 45) _ = _
          simp only [Act.put, List.setIfInBounds_toArray, List.set_cons_zero, List.set_cons_succ, i64_w, i32_w]
          rfl
        refine pure_ (i := 10) (N := some 35) (v := ?_) (a' := ?_) #[true, true, true, true, true, true, true, true, true, true, true, false, false, false, false] rfl rfl (by kernel_rfl) (fun _ _ _ h => h) (Or.inl ⟨by rfl, ?_⟩) ?_ ?_
        rotate_left
        · intro w'
          go_simp
          with_reducible rfl
        rotate_left
        · simp only [Act.put, List.setIfInBounds_toArray, List.set_cons_zero, List.set_cons_succ, i64_w, i32_w]
          rfl
        refine pure_ (i := 11) (N := some 46) (v := ?_) (a' := ?_) #[true, true, true, true, true, true, true, true, true, true, true, true, false, false, false] rfl rfl (by kernel_rfl) (fun _ _ _ h => h) (Or.inl ⟨by rfl, ?_⟩) ?_ ?_
        rotate_left
        · intro w'
          go_simp
          with_reducible rfl
        rotate_left
        · simp only [Act.put, List.setIfInBounds_toArray, List.set_cons_zero, List.set_cons_succ, i64_w, i32_w]
          rfl
        refine pure_ (i := 12) (N := some 47) (v := ?_) (a' := ?_) #[true, true, true, true, true, true, true, true, true, true, true, true, true, false, false] rfl rfl (by kernel_rfl) (fun _ _ _ h => h) (Or.inl ⟨by rfl, ?_⟩) ?_ ?_
        rotate_left
        · intro w'
          go_simp
          with_reducible rfl
        rotate_left
        · simp only [Act.put, List.setIfInBounds_toArray, List.set_cons_zero, List.set_cons_succ, i64_w, i32_w]
          rfl
        refine pure_ (i := 13) (N := some 4) (v := ?_) (a' := ?_) #[true, true, true, true, true, true, true, true, true, true, true, true, true, true, false] rfl rfl (by kernel_rfl) (fun _ _ _ h => h) (Or.inl ⟨by rfl, ?_⟩) ?_ ?_
        rotate_left
        · intro w'
          go_simp
          with_reducible rfl
        rotate_left
        · simp only [Act.put, List.setIfInBounds_toArray, List.set_cons_zero, List.set_cons_succ, i64_w, i32_w]
          rfl
        refine pure_ (i := 14) (N := some 5) (v := ?_) (a' := ?_) #[true, true, true, true, true, true, true, true, true, true, true, true, true, true, true] rfl rfl (by kernel_rfl) (fun _ _ _ h => h) (Or.inl ⟨by rfl, ?_⟩) ?_ ?_
        rotate_left
        · intro w'
          go_simp
          with_reducible rfl
        rotate_left
        · simp only [Act.put, List.setIfInBounds_toArray, List.set_cons_zero, List.set_cons_succ, i64_w, i32_w]
          rfl
        refine done_ (by kernel_rfl) ?_
        clear hHeld
        generalize runG (beginG places.toNat items) (l.take n) = g at HL2 hgn
        have HN := Lib.hid hgn
        clear hgn
        have HK2 := Lib.hid (And.intro (HF2.out.cell k0 (by simp only [HTW.out]; omega)) (And.intro (HF2.out.cell k1 (by simp only [HTW.out]; omega)) (HF2.out.cell k2 (by simp only [HTW.out]; omega))))
        go_wp2_with (first
        | (
          go_at_call 48
          refine (p_proposals 400 HL2.out (by omega) (by decide)).mono ?_
          rintro e w6 ⟨v6, vs, rfl, T6, hrow, hcl, hF6⟩
          obtain ⟨A6, c6, rfl, z1, z2⟩ := hrow.form
          unfold maxLen at z2
          have HL6 := Lib.hid (HL2.out.fr hF6 (fun t h => by omega))
          have HF6 := Lib.hid (HF2.out.trans (hF6.mono (fun t h => by omega)))
          have HR6 := Lib.hid hrow
          have HC6 := Lib.hid hcl
          clear hrow hF6 hcl)
        | (
          go_at_call 56
          refine (p_decided (300, 0, 0) HL6.out (by decide)).mono ?_
          rintro e w7 ⟨v7, rfl, T7, hrow, hF7⟩
          obtain ⟨A7, c7, rfl, y1, y2⟩ := hrow.form
          unfold maxLen at y2
          have HL7 := Lib.hid (HL6.out.frF hF7)
          have HF7 := Lib.hid (HF6.out.trans (hF7.mono (fun _ h => h.elim)))
          have HR7 := Lib.hid (HR6.out.fr hF7 (fun x => x))
          have HF67 := Lib.hid hF7
          have HD7 := Lib.hid hrow
          clear hrow hF7))
        have hnp6 : g.np ≤ 80 := HL7.out.np
        have hdl := dec_len HL7.out.good
        go_loopw [57] (fun i wq => ∃ m : Nat, m ≤ g.dec.length ∧ i = .int .i64 m ∧ ∃ Tq : Nat → Tag, Hid (Fr (fun _ => False) T7 Tq w7 wq)) (fun i _ => g.dec.length - (intOf i).toNat)
        case atStart => exact ⟨0, Nat.zero_le _, rfl, T7, Lib.hid (Fr.refl HF7.out.dom)⟩
        case round =>
          obtain ⟨m, hm, rfl, Tq, HFq⟩ := hrel
          by_cases hmt : m < g.dec.length
          · obtain ⟨x, hx⟩ : ∃ x, g.dec[m]? = some x := ⟨_, List.getElem?_eq_getElem hmt⟩
            obtain ⟨hx0, hx1, hmom⟩ := moment HL7.out.good.inv (List.mem_of_getElem? hx)
            obtain ⟨xn, rfl⟩ : ∃ xn : Nat, x = xn := ⟨x.toNat, by omega⟩
            have hxn : xn < g.np := by omega
            obtain ⟨b7, rfl, _, _, hcell⟩ := (HD7.out.fr HFq.out (fun x => x)).cell rfl (j := m) (by simpa [ints] using hmt)
            have e0 : wr.cell? ⟨b7, m, none⟩ = some (.int .i64 xn) := by rw [hcell, ints, List.getElem?_map, hx]; rfl
            obtain ⟨u, hu, hru⟩ := HC6.out xn hxn
            have hcr := (hru.frF HF67.out).frF HFq.out
            have hcl64 := HL7.out.good.inv.len xn
            obtain ⟨b6, rfl, _, _, hcell6⟩ := (HR7.out.fr HFq.out (fun x => x)).cell rfl (j := xn) (List.getElem?_eq_some_iff.1 hu).1
            have e1 : wr.cell? ⟨b6, xn, none⟩ = some u := by rw [hcell6, hu]
            obtain ⟨cs, hcs⟩ : ∃ cs, cs = (g.props xn).claims := ⟨_, rfl⟩
            rw [← hcs] at hcr hmom hcl64
            obtain ⟨UA, ucap, rfl, u1, u2⟩ := hcr.slice
            unfold maxLen at u2
            have HCR := Lib.hid hcr
            have HMO := Lib.hid hmom
            have HCS := Lib.hid hcs
            have HLq := Lib.hid (HL7.out.frF HFq.out)
            have i5 : (0 : Int) ≤ (m : Int) := by omega
            have i6 : (m : Int) < (g.dec.length : Int) := by omega
            have i8 : (0 : Int) ≤ (xn : Int) := by omega
            have i9 : (xn : Int) < (g.np : Int) := by omega
            have j1 : decide ((xn : Int) < 0) = false := decide_eq_false (by omega)
            have j2 : decide ((g.np : Int) ≤ (xn : Int)) = false := decide_eq_false (by omega)
            have j3 : decide (g.np ≤ xn) = false := decide_eq_false (by omega)
            clear hx hx0 hx1 hmom hcell hu hru hcr hcell6 hcs
            go_wp2_with fail
            go_loopw [74] (fun i wq => ∃ k : Nat, k ≤ cs.length ∧ i = .int .i64 k ∧ ∃ Tk : Nat → Tag, Hid (Fr (fun _ => False) Tq Tk wr wq)) (fun i _ => cs.length - (intOf i).toNat)
            case atStart => exact ⟨0, Nat.zero_le _, rfl, Tq, Lib.hid (Fr.refl HFq.out.dom)⟩
            case round =>
              obtain ⟨k, hk, rfl, Tk, HFk⟩ := hrel
              by_cases hkt : k < cs.length
              · obtain ⟨⟨ci, cver⟩, hcx⟩ : ∃ c, cs[k]? = some c := ⟨_, List.getElem?_eq_getElem hkt⟩
                have hmem := List.mem_of_getElem? hcx
                have hdis : (g.items ci).hold = some (xn : Int) ∨ (xn : Int) ∈ (g.items ci).hist := HMO.out _ hmem
                obtain ⟨ii, hii⟩ := cl_of_mem (g := g) (p := xn) (c := ⟨ci, cver⟩) (by rw [← HCS.out]; exact hmem)
                have hrng : (0 : Int) ≤ xn ∧ (xn : Int) < g.np ∧ 0 ≤ ci ∧ ci < g.n := HL7.out.good.inv.rng _ _ _ hii
                obtain ⟨jn, rfl⟩ : ∃ jn : Nat, ci = jn := ⟨ci.toNat, by omega⟩
                have HJ : Hid (jn < g.n) := Lib.hid (by omega)
                obtain ⟨bc, off, cap, hv, _, _, hce⟩ := Rd.elem (enc := Clm.cells) (HCR.out.frF HFk.out) (fun _ => rfl) (by decide) hcx
                injection hv with hv _ hv2
                subst hv hv2
                have f0 : wr.cell? ⟨bc, off + k * 2, none⟩ = some (.int .i64 jn) := hce 0 _ rfl
                have f1 : wr.cell? ⟨bc, off + k * 2 + 1, none⟩ = some (.int .i64 cver) := hce 1 _ rfl
                have i10 : (0 : Int) ≤ (k : Int) := by omega
                have i11 : (k : Int) < (cs.length : Int) := by omega
                have hhl : (g.items jn).hist.length ≤ 80 := by have := hist_len HL7.out.good jn; omega
                obtain ⟨hs, hhs⟩ : ∃ x, x = (g.items jn).hist := ⟨_, rfl⟩
                obtain ⟨ho, hho⟩ : ∃ x, x = holdI (g.items jn) := ⟨_, rfl⟩
                rw [← hhs] at hhl hdis
                have HHS := Lib.hid hhs
                have HHO := Lib.hid hho
                have hq : (ho != (xn : Int)) = false ∨ ((ho != (xn : Int)) = true ∧ decide ((xn : Int) ∈ hs) = true) := by
                  by_cases e : ho = xn
                  · exact .inl (by rw [e]; simp)
                  · refine .inr ⟨by simpa using e, decide_eq_true (hdis.resolve_left fun e' => e ?_)⟩
                    rw [hho, holdI, e']
                clear hcx hmem hdis hii hrng hce hhs hho
                have HFa2 := Lib.hid (HFk.out.al (.cells #[.int .i64 jn, .int .i64 cver] 69))
                rcases hq with q1 | ⟨q1, q2⟩
                · go_wp2_with (first
                  | (
                    go_at_call 41
                    refine (p_holder (j := jn) (HLq.out.frF HFa2.out) HJ.out).mono ?_
                    rw [← HHO.out]
                    rintro e w8 ⟨rfl, hF8⟩
                    have a0 : w8.cell? ⟨wr.heap.size, 0, none⟩ = some (.int .i64 jn) := hF8.cellF (by go_simp)
                    have HF8 := Lib.hid (HFa2.out.trans hF8)
                    clear hF8)
                  | (
                    go_at_call 49
                    refine (p_history (j := jn) (301, 0, 0) (HLq.out.frF HF8.out) HJ.out (by decide)).mono ?_
                    rw [← HHS.out]
                    rintro e w9 ⟨v9, rfl, T9, hrow, hF9⟩
                    obtain ⟨A9, c9, rfl, z3, z4⟩ := hrow.form
                    unfold maxLen at z4
                    have HF9 := Lib.hid (HF8.out.trans hF9)
                    clear hF9 hrow))
                  go_roundw
                  case rel => exact ⟨k + 1, by omega, by go_num, T9, HF9⟩
                  case measure => simp [intOf]; omega
                · have HNO := Lib.hid q2
                  clear q2
                  go_wp2_with (first
                  | (
                    go_at_call 41
                    refine (p_holder (j := jn) (HLq.out.frF HFa2.out) HJ.out).mono ?_
                    rw [← HHO.out]
                    rintro e w8 ⟨rfl, hF8⟩
                    have a0 : w8.cell? ⟨wr.heap.size, 0, none⟩ = some (.int .i64 jn) := hF8.cellF (by go_simp)
                    have HF8 := Lib.hid (HFa2.out.trans hF8)
                    clear hF8)
                  | (
                    go_at_call 49
                    refine (p_history (j := jn) (301, 0, 0) (HLq.out.frF HF8.out) HJ.out (by decide)).mono ?_
                    rw [← HHS.out]
                    rintro e w9 ⟨v9, rfl, T9, hrow, hF9⟩
                    obtain ⟨A9, c9, rfl, z3, z4⟩ := hrow.form
                    unfold maxLen at z4
                    have HR9 := Lib.hid hrow
                    have HF9 := Lib.hid (HF8.out.trans hF9)
                    clear hF9 hrow)
                  | (
                    go_at_call 51
                    refine (containsN_ok hs xn w9 (HR9.out.rd (ints_one _)) (by omega)).mono ?_
                    rw [HNO.out]
                    rintro e w' ⟨rfl, hw⟩
                    replace hw := hw.symm
                    subst hw))
                  go_roundw
                  case rel => exact ⟨k + 1, by omega, by go_num, T9, HF9⟩
                  case measure => simp [intOf]; omega
              · have hkk : k = cs.length := by omega
                subst hkk
                go_wp2_with fail
                go_roundw
                case rel => exact ⟨m + 1, by omega, by go_num, Tk, Lib.hid (HFq.out.trans HFk.out)⟩
                case measure => simp [intOf]; omega
          · have hmm : m = g.dec.length := by omega
            subst hmm
            have hfc := HF7.out.trans (HFq.out.mono (S' := fun t => 1 ≤ t.1) (fun _ h => h.elim))
            have HFC := Lib.hid hfc
            clear hfc
            go_wp2_with fail
            go_roundw
            case rel =>
              have hfc := HFC.out
              exact ⟨n + 1, by omega, by go_num, Tq, Lib.hid ⟨hfc.cell k0 (by simp only [HTW.out]; omega), hfc.cell k1 (by simp only [HTW.out]; omega), hfc.cell k2 (by simp only [HTW.out]; omega)⟩, Lib.hid ((hfc.same _ (World.block_lt_of_cell? _ _ k0)).trans HTr.out), Lib.hid (HIr.out.ext HIEr.out hfc (fun t h => by omega)), Lib.hid (HIEr.out.fr hfc), Lib.hid (HLr.out.fr hfc (fun t h => by omega)), Lib.hid (HFr.out.trans hfc)⟩
            case measure => simp [intOf]; omega
    · have hnn : n = M + 1 := by omega
      subst hnn
      go_wp2_with fail
      go_ret
      exact ⟨rfl, Tr, HFr.out⟩
end Go.Proofs.Ytclkokkppgchfaa
