/- A part of the proof: texts of this session, joined. -/
import Derived.Test.YtclkokkppgchfaaPart10
import Derived.Test.YtclkokkppgchfaaPart8
import Derived.Test.YtclkokkppgchfaaPart5
import Derived.Deep.DeepCutAuto
import Derived.Laws.OwnMore
/- NegoOne: the walk. -/
namespace Go.Proofs.Ytclkokkppgchfaa
open Go.RowKit Go.Ng Go.Proofs.YtclkokkppgchfaaW.PrintLast
set_option linter.unusedSimpArgs false
set_option linter.unusedVariables false
/-- The beginning of a row. -/
theorem row_prefix {tag : Nat → Tag} {t : Tag} {w : World} {A : Option Addr} {n cap : Nat} {l : List Int} (h : Row tag t 3 1 w (.slice A n cap) n (ints l)) {i : Nat} (hi : i ≤ n) : Rd 1 w (.slice A i cap) i (ints (l.take i)) := by
  have hlen : l.length = n := by have := h.len; simpa [ints] using this
  have hrd := h.rd (ints_one l)
  refine ⟨by simp [ints]; omega, ints_one _, ?_⟩
  rcases hrd.form with ⟨hv, hn⟩ | ⟨b, off, cap', hv, h1, h2, h3⟩
  · injection hv with a1 a2 a3
    subst a1 a3
    have : i = 0 := by omega
    subst this
    exact .inl ⟨rfl, rfl⟩
  · injection hv with a1 a2 a3
    subst a1 a3
    refine .inr ⟨b, off, cap, rfl, by omega, h2, fun j u hu => h3 j u ?_⟩
    have hj : j < i := by
      have := (List.getElem?_eq_some_iff.1 hu).1
      simp [ints] at this; omega
    rw [ints, List.getElem?_map, List.getElem?_take, if_pos hj] at hu
    rw [ints, List.getElem?_map]; exact hu
theorem nodup_take {l : List Int} (h : l.Nodup) {i : Nat} {x : Int} (hx : l[i]? = some x) : x ∉ l.take i := by
  intro hm
  obtain ⟨j, hj⟩ := List.getElem?_of_mem hm
  rw [List.getElem?_take] at hj
  split at hj
  · rename_i hji
    obtain ⟨h1, h2⟩ := List.getElem?_eq_some_iff.1 hx
    obtain ⟨h3, h4⟩ := List.getElem?_eq_some_iff.1 hj
    have := (List.pairwise_iff_getElem.1 h) j i h3 h1 hji
    exact this (h4.trans h2.symm)
  · cases hj
theorem runG_same (g : G) : ∀ l : List OpM, (runG g l).n = g.n := by
  intro l
  induction l generalizing g with
  | nil => rfl
  | cons o l ih =>
    show (runG (doG g o).1 l).n = g.n
    rw [ih]
    have hL : ∀ i : Int, (doL g i).1.n = g.n := by
      intro i; unfold doL; split
      · rfl
      · split
        · exact (takeG_same (g := g) _).2.2.1
        · rfl
    unfold doG
    split
    · unfold doP; repeat' (first | rfl | split)
    · split
      · unfold doD; repeat' (first | rfl | split)
      · split
        · exact hL _
        · split
          · unfold doB; repeat' (first | rfl | split)
          · rfl
set_option maxRecDepth 100000 in
set_option maxHeartbeats 6400000 in
theorem negoOne_ok {tag : Nat → Tag} {w : World} {v : Value} {places : Int} {items : List Int} {l : List OpM} (h : WorldRd tag w v places items l) (hok : TagOk tag w) :
    Calls Try.prog 9 #[v] w fun e w' => e = .returned (.bool true) ∧ ∃ tag', Fr (fun t => 1 ≤ t.1) tag tag' w w' := by
  have HS := fun {tag : Nat → Tag} {w : World} => @sane_ok tag w 1
  obtain ⟨vi, vl, rfl, hi, hie, hl⟩ := h.form
  obtain ⟨IA, icap, rfl, q1, q2⟩ := hi.slice
  obtain ⟨LA, lcap, rfl, q3, q4⟩ := hl.slice
  unfold maxLen at q2
  have hFa : Fr (fun _ => False) tag tag w (w.alloc (.cells #[.int .i64 places, .slice IA items.length icap, .slice LA l.length lcap] 75)) := Fr.alloc hok _
  have HFa := Lib.hid hFa
  have HW := Lib.hid (h.fr hFa (fun t h => h.elim))
  have hnew : (tag w.heap.size).1 = 0 := hok.new
  clear h hi hie hl hFa
  by_cases hb : fewB items.length l = false ∨ validB places items = false
  · have HB := Lib.hid hb
    clear hb
    go_enter Try.func9, Try.ntmps9
    go_wp2_with (first
    | (
      go_at_call 16
      refine (HS HFa.out.dom (by omega)).mono ?_
      rintro e w1 ⟨rfl, T1, hF1, hok1⟩
      have k0 : w1.cell? ⟨w.heap.size, 0, none⟩ = some (.int .i64 places) := hF1.cell (by go_simp) (by simp only [hnew]; omega)
      have k1 : w1.cell? ⟨w.heap.size, 1, none⟩ = some (.slice IA items.length icap) := hF1.cell (by go_simp) (by simp only [hnew]; omega)
      have k2 : w1.cell? ⟨w.heap.size, 2, none⟩ = some (.slice LA l.length lcap) := hF1.cell (by go_simp) (by simp only [hnew]; omega)
      have HW1 := Lib.hid (HW.out.fr hF1 (fun t h => by omega))
      have HF1 := Lib.hid ((HFa.out.mono (S' := fun t => 1 ≤ t.1) (fun _ h => h.elim)).trans (hF1.mono (fun t h => by omega)))
      clear hF1)
    | (
      go_at_call 39
      refine (begun_no HW1.out HF1.out.dom HB.out).mono ?_
      rintro e w2 ⟨rfl, hF2⟩
      have HF2 := Lib.hid (HF1.out.trans (hF2.mono (fun _ h => h.elim)))
      clear hF2))
    go_ret
    exact ⟨rfl, T1, HF2.out⟩
  · simp only [not_or, Bool.not_eq_false] at hb
    obtain ⟨hb1, hb2⟩ := hb
    have HB1 := Lib.hid hb1
    have HB2 := Lib.hid hb2
    clear hb1 hb2
    go_enter Try.func9, Try.ntmps9
    go_wp2_with (first
    | (
      go_at_call 16
      refine (HS HFa.out.dom (by omega)).mono ?_
      rintro e w1 ⟨rfl, T1, hF1, hok1⟩
      have k0 : w1.cell? ⟨w.heap.size, 0, none⟩ = some (.int .i64 places) := hF1.cell (by go_simp) (by simp only [hnew]; omega)
      have k1 : w1.cell? ⟨w.heap.size, 1, none⟩ = some (.slice IA items.length icap) := hF1.cell (by go_simp) (by simp only [hnew]; omega)
      have k2 : w1.cell? ⟨w.heap.size, 2, none⟩ = some (.slice LA l.length lcap) := hF1.cell (by go_simp) (by simp only [hnew]; omega)
      have HT1 := Lib.hid (hF1.same w.heap.size (by simp))
      have HW1 := Lib.hid (HW.out.fr hF1 (fun t h => by omega))
      have HF1 := Lib.hid ((HFa.out.mono (S' := fun t => 1 ≤ t.1) (fun _ h => h.elim)).trans (hF1.mono (fun t h => by omega)))
      clear hF1)
    | (
      go_at_call 39
      refine (p_begun 100 HW1.out HF1.out.dom (by omega) HB1.out HB2.out).mono ?_
      rintro e w2 ⟨p, rfl, T2, hL2, hF2⟩
      have m1 : w2.cell? ⟨w.heap.size, 1, none⟩ = some (.slice IA items.length icap) := hF2.cell k1 (by simp only [HT1.out, hnew]; omega)
      have HL2 := Lib.hid hL2
      have HF2 := Lib.hid (HF1.out.trans (hF2.mono (fun t h => by omega)))
      clear hF2 hL2 k0 k1 k2))
    have hn : (runG (beginG places.toNat items) l).n = items.length := by rw [runG_same]; rfl
    generalize runG (beginG places.toNat items) l = g at HL2 hn
    have HN := Lib.hid hn
    clear hn
    go_loopw [26] (fun i wr => ∃ n : Nat, n ≤ items.length ∧ i = .int .i64 n ∧ ∃ Tr : Nat → Tag, Hid (LiveP Tr 100 wr p g 80) ∧ Hid (Fr (fun t => 1 ≤ t.1) tag Tr w wr)) (fun i _ => items.length - (intOf i).toNat)
    case atStart => exact ⟨0, Nat.zero_le _, rfl, T2, HL2, HF2⟩
    case round =>
      obtain ⟨n, hn, rfl, Tr, HLr, HFr⟩ := hrel
      by_cases hlt : n < items.length
      · have HJ : Hid (n < g.n) := Lib.hid (by rw [HN.out]; exact hlt)
        have HV : Hid ((g.items n).ver = ((g.items n).hist.length : Int)) := Lib.hid (HLr.out.good.inv.vh n)
        have HD := Lib.hid (HLr.out.good.inv.hnd n)
        have hhl : (g.items n).hist.length ≤ 80 := by have := hist_len HLr.out.good n; have := HLr.out.np; omega
        obtain ⟨hl, hhl0⟩ : ∃ x, x = (g.items n).hist := ⟨_, rfl⟩
        rw [← hhl0] at HV HD hhl
        have HH := Lib.hid hhl0
        clear hhl0
        go_wp2_with (first
        | (
          go_at_call 49
          refine (p_history (j := n) (300, 0, 0) HLr.out HJ.out (by decide)).mono ?_
          rintro e w3 ⟨v3, rfl, T3, hrow, hF3⟩
          rw [← HH.out] at hrow
          obtain ⟨A3, c3, rfl, z1, z2⟩ := hrow.form
          unfold maxLen at z2
          have HR3 := Lib.hid hrow
          have HL3 := Lib.hid (HLr.out.frF hF3)
          have HF3 := Lib.hid (HFr.out.trans (hF3.mono (fun _ h => h.elim)))
          clear hrow hF3)
        | (
          go_at_call 50
          refine (p_version (j := n) HL3.out HJ.out).mono ?_
          rw [HV.out]
          rintro e w4 ⟨rfl, hF4⟩
          have HR4 := Lib.hid (HR3.out.fr hF4 (fun x => x))
          have HL4 := Lib.hid (HL3.out.frF hF4)
          have HF4 := Lib.hid (HF3.out.trans (hF4.mono (fun _ h => h.elim)))
          clear hF4))
        go_loopw [55] (fun i wq => ∃ m : Nat, m ≤ hl.length ∧ i = .int .i64 m ∧ Hid (Fr (fun _ => False) T3 T3 w4 wq)) (fun i _ => hl.length - (intOf i).toNat)
        case atStart => exact ⟨0, Nat.zero_le _, rfl, Lib.hid (Fr.refl HF4.out.dom)⟩
        case round =>
          obtain ⟨m, hm, rfl, HFq⟩ := hrel
          by_cases hmt : m < hl.length
          · obtain ⟨x, hx⟩ : ∃ x, hl[m]? = some x := ⟨_, List.getElem?_eq_getElem hmt⟩
            have hr4 := HR4.out.fr HFq.out (fun x => x)
            obtain ⟨b, rfl, _, _, hcell⟩ := hr4.cell rfl (j := m) (by simpa [ints] using hmt)
            have e0 : wr.cell? ⟨b, m, none⟩ = some (.int .i64 x) := by rw [hcell, ints, List.getElem?_map, hx]; rfl
            have HPR := Lib.hid (row_prefix hr4 (i := m) (by omega))
            have hno : decide (x ∈ hl.take m) = false := decide_eq_false (nodup_take HD.out hx)
            have HNO := Lib.hid hno
            have i5 : (0 : Int) ≤ (m : Int) := by omega
            have i6 : (m : Int) < (hl.length : Int) := by omega
            have i7 : (m : Int) ≤ (c3 : Int) := by omega
            have htl : (hl.take m).length = m := by rw [List.length_take]; omega
            have HTL := Lib.hid htl
            have hc3 : ¬ c3 = m ∨ c3 = m := by omega
            clear hx hr4 hcell hno htl hc3
            go_wp2_with (
              go_at_call 51
              refine (containsN_ok (hl.take m) x wr (by rw [HTL.out]; exact HPR.out) (by rw [HTL.out]; omega)).mono ?_
              rw [HNO.out]
              rintro e w' ⟨rfl, hw⟩
              replace hw := hw.symm
              subst hw)
            go_roundw
            case rel => exact ⟨m + 1, by omega, by go_num, HFq⟩
            case measure => simp [intOf]; omega
          · have hmm : m = hl.length := by omega
            subst hmm
            go_wp2_with fail
            go_roundw
            case rel => exact ⟨n + 1, by omega, by go_num, T3, Lib.hid (HL4.out.frF HFq.out), Lib.hid (HF4.out.trans (HFq.out.mono (fun _ h => h.elim)))⟩
            case measure => simp [intOf]; omega
      · have hnn : n = items.length := by omega
        subst hnn
        go_wp2_with fail
        go_ret
        exact ⟨rfl, Tr, HFr.out⟩
end Go.Proofs.Ytclkokkppgchfaa

/- calm, versions, Proposals. -/
namespace Go.Proofs.Ytclkokkppgchfaa
open Go.RowKit Go.Ng Go.Proofs.YtclkokkppgchfaaW.PrintLast
set_option linter.unusedSimpArgs false
set_option linter.unusedVariables false
section
variable {tag : Nat → Tag} {w : World} {B p k : Nat} {g : G}
theorem calm_ok (choices : List Int) {v : Value} (L : LiveP tag B w p g k) (hk : k ≤ 150) (hr : Rd 1 w v choices.length (ints choices)) (he : Ext tag w v) (hc : choices.length ≤ 1000000) :
    Calls Try.prog 37 #[.pointer (some ⟨p, 0, none⟩), v] w fun e w' => e = .returned (.bool true) ∧ ∃ (m : Nat) (tag' : Nat → Tag), (calmN choices g m).1.fl = [] ∧ m ≤ W2.all g ∧ LiveP tag' B w' p (calmN choices g m).1 k ∧ Fr (fun t => B ≤ t.1 ∧ t.1 ≤ B + 33) tag tag' w w' := by
  have HC := Lib.hid (p_calm choices L hk hr he hc)
  clear L hr he
  go_enter Try.func37, Try.ntmps37
  go_wp2_with (first
  | (
    go_at_call 33
    refine HC.out.mono ?_
    rintro e w1 ⟨m, cv, rfl, hfl, hm, T1, hL1, _, hF1⟩
    have HL1 := Lib.hid hL1
    have HFL := Lib.hid hfl
    have HF1 := Lib.hid hF1
    clear hL1 hfl hF1)
  | (
    go_at_call 42
    refine (p_flight (B + 40, 3, 0) HL1.out hk).mono ?_
    rintro e w2 ⟨v2, rfl, T2, hrow, hF2⟩
    obtain ⟨A2, c2, h2, _, _⟩ := hrow.form
    rw [HFL.out] at h2
    simp only [List.length_nil] at h2
    subst h2
    have HL2 := Lib.hid (HL1.out.frF hF2)
    have HF2 := Lib.hid (HF1.out.trans (hF2.mono (fun _ h => h.elim)))
    clear hrow hF2))
  go_ret
  exact ⟨rfl, m, T2, HFL.out, hm, HL2.out, HF2.out⟩
set_option maxRecDepth 100000 in
set_option maxHeartbeats 3200000 in
theorem nproposals_ok {N : NetM} (r : Nat) (h : NRep tag B w N) (hok : TagOk tag w) (hr : r < B ∨ B + N.places.length < r) (hr0 : r ≠ 0) (hn : N.claims.length ≤ 1000) (hl : ∀ (i : Nat) (l : List Clm), N.claims[i]? = some l → l.length ≤ 1000) :
    Calls Try.prog 48 #[.pointer (some ⟨N.ptr, 0, none⟩)] w fun e w' => ∃ v vs, e = .returned v ∧ ∃ tag' : Nat → Tag, Row tag' (r, 0, 0) 34 1 w' v N.claims.length vs ∧ (∀ (i : Nat) (l : List Clm), N.claims[i]? = some l → ∃ u, vs[i]? = some u ∧ Rd 2 w' u l.length (claims l)) ∧ Fr (fun t => t.1 = r) tag tag' w w' := by
  obtain ⟨i0, hi, hz0, hz1, hz2⟩ := info_parts Try.info34
  obtain ⟨pv, sv, fv, xv, hv, yv, dv, hce, h2, h3, h4, ⟨cvs, h5, h6⟩, h7, h8⟩ := h.cells
  obtain ⟨CA, ccap, rfl, q1, q2⟩ := h5.form
  unfold maxLen at q2
  have c3 : w.cell? ⟨N.ptr, 3, none⟩ = some (.slice CA N.claims.length ccap) := cell_of hce 3
  have hcvl : cvs.length = N.claims.length := by have := h5.len; omega
  have H5 := Lib.hid h5
  have H6 := Lib.hid h6
  have HLN := Lib.hid hl
  have HCVL := Lib.hid hcvl
  have hB0 := h.b0
  clear h hce h2 h3 h4 h5 h6 h7 h8 hl hcvl
  go_enter Try.func48, Try.ntmps48
  go_wp2_with fail
  go_loopw [3, 13] (fun a i wr => ∃ n : Nat, n ≤ N.claims.length ∧ i = .int .i64 n ∧ ∃ (Tr : Nat → Tag) (vs : List Value), Hid (Row Tr (r, 0, 0) 34 1 wr a n vs) ∧
    Hid (∀ (i : Nat) (l : List Clm), i < n → N.claims[i]? = some l → ∃ u, vs[i]? = some u ∧ Row Tr (r, 1, (i : Int)) 69 2 wr u l.length (claims l)) ∧ Hid (Fr (fun t => t.1 = r) tag Tr w wr)) (fun _ i _ => N.claims.length - (intOf i).toNat)
  case atStart => exact ⟨0, Nat.zero_le _, rfl, tag, [], Lib.hid (Row.nil _ _ _ _ _), Lib.hid (fun i l h => by omega), Lib.hid (Fr.refl hok)⟩
  case round =>
    obtain ⟨n, hn', rfl, Tr, vs, HRo, HIn, HFr⟩ := hrel
    obtain ⟨RA, rcap, rfl, _, _⟩ := HRo.out.form
    by_cases hlt : n < N.claims.length
    · obtain ⟨l, hx⟩ : ∃ l, N.claims[n]? = some l := ⟨_, List.getElem?_eq_getElem hlt⟩
      obtain ⟨u, hu, hur⟩ := H6.out n l hx
      have h5r := H5.out.fr HFr.out (show ¬ (B, 5, (0 : Int)).1 = r by simp; omega)
      obtain ⟨cb, rfl, _, _, hcell⟩ := h5r.cell rfl (j := n) (by rw [HCVL.out]; exact hlt)
      obtain ⟨UA, ucap, rfl, _, _⟩ := hur.form
      have e0 : wr.cell? ⟨cb, n, none⟩ = some (.slice UA l.length ucap) := by rw [hcell]; exact hu
      have HUR := Lib.hid ((hur.fr HFr.out (show ¬ (B, 6, (n : Int)).1 = r by simp; omega)).rd (claims_one l))
      have hll := HLN.out n l hx
      have HX := Lib.hid hx
      have i5 : (0 : Int) ≤ (n : Int) := by omega
      have i6 : (n : Int) < (N.claims.length : Int) := by omega
      have hokr := HFr.out.dom
      clear hx hu hur h5r hcell
      go_wp2_with (first
      | (
        go_at_call 70
        refine (clone70_ok (r, 1, (n : Int)) l.length (claims l) wr HUR.out hokr (by omega)).mono ?_
        rintro e w1 ⟨v1, rfl, T1, hrow, hF1⟩
        obtain ⟨A1, c1, rfl, _, _⟩ := hrow.form
        have HV1 := Lib.hid hrow
        have HF1 := Lib.hid hF1
        have HR1 := Lib.hid (HRo.out.fr hF1 (fun x => x))
        clear hrow hF1)
      | (
        at_builtin
        refine append_list rfl (.tmp 17) (.tmp 20) 87 rfl (by rfl) (by rfl) (HR1.out.alloc _) (HF1.out.dom.alloc _) Try.underlying87 hi hz0 hz1 hz2 rfl (by decide) [.slice A1 l.length c1] rfl (news_at (Go.Ng.heap_alloc_at _ _)) (by simp [Value.oneCell']) (by decide) (by unfold maxLen; omega) (by omega) ?_
        intro g2 cap2 w2 T2 hrow hfr
        have HROW := Lib.hid hrow
        have HF2 := Lib.hid ((Fr.alloc HF1.out.dom (.cells #[.slice A1 l.length c1] 34)).trans hfr)
        clear hrow hfr))
      go_roundw
      case rel =>
        refine ⟨n + 1, by omega, by go_num, T2, vs ++ [.slice A1 l.length c1], HROW, Lib.hid (fun i l' hil hl' => ?_), Lib.hid ((HFr.out.trans (HF1.out.mono (fun _ h => h.elim))).trans (HF2.out.mono (fun t h => by rw [h])))⟩
        have hvl : vs.length = n := by have := HRo.out.len; omega
        by_cases e : i < n
        · obtain ⟨u, hu, hr'⟩ := HIn.out i l' e hl'
          exact ⟨u, by rw [List.getElem?_append_left (by omega)]; exact hu, (hr'.fr HF1.out (fun x => x)).fr HF2.out (by simp)⟩
        · have : i = n := by omega
          subst this
          rw [HX.out] at hl'
          injection hl' with hl'
          subst hl'
          exact ⟨.slice A1 l.length c1, by rw [List.getElem?_append_right (by omega), hvl]; simp, HV1.out.fr HF2.out (by simp)⟩
      case measure => simp [intOf]; omega
    · have hnn : n = N.claims.length := by omega
      subst hnn
      go_wp2_with fail
      go_ret
      exact ⟨_, vs, rfl, Tr, HRo.out, fun i l hl => by obtain ⟨u, h1, h2⟩ := HIn.out i l (List.getElem?_eq_some_iff.1 hl).1 hl; exact ⟨u, h1, h2.rd (claims_one l)⟩, HFr.out⟩
theorem p_proposals (r : Nat) (L : LiveP tag B w p g k) (hr : B + 32 < r) (hk : k ≤ 150) :
    Calls Try.prog 48 #[.pointer (some ⟨p, 0, none⟩)] w fun e w' => ∃ v vs, e = .returned v ∧ ∃ tag' : Nat → Tag, Row tag' (r, 0, 0) 34 1 w' v g.np vs ∧ (∀ i : Nat, i < g.np → ∃ u, vs[i]? = some u ∧ Rd 2 w' u (g.props i).claims.length (claims (g.props i).claims)) ∧ Fr (fun t => t.1 = r) tag tag' w w' := by
  obtain ⟨N, rfl, h⟩ := L.net
  have hp := h.abs.p32
  have hnp := h.np
  refine (nproposals_ok r h.rep h.ok (by rw [h.abs.plen]; omega) (by omega) (by rw [h.abs.clen]; omega) (fun i l hl => ?_)).mono ?_
  · have hi : i < g.np := by rw [← h.abs.clen]; exact (List.getElem?_eq_some_iff.1 hl).1
    rw [h.abs.claims i hi] at hl
    injection hl with hl
    have := h.good.inv.len i
    rw [← hl]; omega
  · rintro e w' ⟨v, vs, he, T, h1, h2, h3⟩
    rw [h.abs.clen] at h1
    exact ⟨v, vs, he, T, h1, fun i hi => h2 i _ (h.abs.claims i hi), h3⟩
end
/-- What deliveries alone make of a negotiation. -/
theorem calmN_good {choices : List Int} {g : G} (I : NGood g) : ∀ k, NGood (calmN choices g k).1 := by
  intro k
  induction k with
  | zero => exact I
  | succ k ih =>
    show NGood (doL (calmN choices g k).1 _).1
    unfold doL
    split
    · exact ih
    · split
      · rename_i m hm; exact ih.deliver hm
      · exact ih
theorem still_of {g : G} (h : g.fl = []) : Still g.has := fun k p j ⟨m, hm, _⟩ => by rw [h] at hm; cases hm
end Go.Proofs.Ytclkokkppgchfaa

/- NegoFree: the walk. -/
namespace Go.Proofs.Ytclkokkppgchfaa
open Go.RowKit Go.Ng Go.Proofs.YtclkokkppgchfaaW.PrintLast
set_option linter.unusedSimpArgs false
set_option linter.unusedVariables false
theorem doL_same (g : G) (i : Int) : (doL g i).1.n = g.n ∧ (doL g i).1.np = g.np ∧ (∀ p, ((doL g i).1.props p).claims = (g.props p).claims) := by
  unfold doL; split
  · exact ⟨rfl, rfl, fun _ => rfl⟩
  · split
    · have h := takeG_same (g := g) ‹_›; exact ⟨h.2.2.1, h.2.2.2.1, h.2.2.2.2.2.2⟩
    · exact ⟨rfl, rfl, fun _ => rfl⟩
theorem calmN_n (choices : List Int) (g : G) : ∀ k, (calmN choices g k).1.n = g.n ∧ (calmN choices g k).1.np = g.np ∧ (∀ p, ((calmN choices g k).1.props p).claims = (g.props p).claims)
  | 0 => ⟨rfl, rfl, fun _ => rfl⟩
  | k + 1 => by
    have h1 := calmN_n choices g k
    have h2 := doL_same (calmN choices g k).1 (pickC choices k (calmN choices g k).1.fl.length)
    exact ⟨h2.1.trans h1.1, h2.2.1.trans h1.2.1, fun p => (h2.2.2 p).trans (h1.2.2 p)⟩
set_option maxRecDepth 100000 in
set_option maxHeartbeats 6400000 in
theorem negoFree_ok {tag : Nat → Tag} {w : World} {v vc : Value} {places : Int} {items choices : List Int} {l : List OpM} (h : WorldRd tag w v places items l) (hc : Rd 1 w vc choices.length (ints choices)) (hce : Ext tag w vc) (hok : TagOk tag w) :
    Calls Try.prog 8 #[v, vc] w fun e w' => e = .returned (.bool true) ∧ ∃ tag', Fr (fun t => 1 ≤ t.1) tag tag' w w' := by
  have HS := fun {tag : Nat → Tag} {w : World} => @sane_ok tag w 1
  obtain ⟨vi, vl, rfl, hi, hie, hl⟩ := h.form
  obtain ⟨IA, icap, rfl, q1, q2⟩ := hi.slice
  obtain ⟨LA, lcap, rfl, q3, q4⟩ := hl.slice
  obtain ⟨CA, ccap, rfl, q5, q6⟩ := hc.slice
  unfold maxLen at q2 q6
  have hFa : Fr (fun _ => False) tag tag w (w.alloc (.cells #[.int .i64 places, .slice IA items.length icap, .slice LA l.length lcap] 75)) := Fr.alloc hok _
  have HFa := Lib.hid hFa
  have HW := Lib.hid (h.fr hFa (fun t h => h.elim))
  have HCR := Lib.hid (hc.frF hFa)
  have HCE := Lib.hid (hce.fr hFa)
  have hnew : (tag w.heap.size).1 = 0 := hok.new
  clear h hi hie hl hFa hc hce
  by_cases hb : fewB items.length l = false ∨ validB places items = false
  · have HB := Lib.hid hb
    clear hb
    go_enter Try.func8, Try.ntmps8
    go_wp2_with (first
    | (
      go_at_call 16
      refine (HS HFa.out.dom (by omega)).mono ?_
      rintro e w1 ⟨rfl, T1, hF1, hok1⟩
      have k0 : w1.cell? ⟨w.heap.size, 0, none⟩ = some (.int .i64 places) := hF1.cell (by go_simp) (by simp only [hnew]; omega)
      have k1 : w1.cell? ⟨w.heap.size, 1, none⟩ = some (.slice IA items.length icap) := hF1.cell (by go_simp) (by simp only [hnew]; omega)
      have k2 : w1.cell? ⟨w.heap.size, 2, none⟩ = some (.slice LA l.length lcap) := hF1.cell (by go_simp) (by simp only [hnew]; omega)
      have HT1 := Lib.hid (hF1.same w.heap.size (by simp))
      have HW1 := Lib.hid (HW.out.fr hF1 (fun t h => by omega))
      have HCR1 := Lib.hid (HCR.out.ext HCE.out hF1 (fun t h => by omega))
      have HCE1 := Lib.hid (HCE.out.fr hF1)
      have HF1 := Lib.hid ((HFa.out.mono (S' := fun t => 1 ≤ t.1) (fun _ h => h.elim)).trans (hF1.mono (fun t h => by omega)))
      clear hF1)
    | (
      go_at_call 39
      refine (begun_no HW1.out HF1.out.dom HB.out).mono ?_
      rintro e w2 ⟨rfl, hF2⟩
      have HF2 := Lib.hid (HF1.out.trans (hF2.mono (fun _ h => h.elim)))
      clear hF2))
    go_ret
    exact ⟨rfl, T1, HF2.out⟩
  · simp only [not_or, Bool.not_eq_false] at hb
    obtain ⟨hb1, hb2⟩ := hb
    have HB1 := Lib.hid hb1
    have HB2 := Lib.hid hb2
    have hn0 : (runG (beginG places.toNat items) l).n = items.length := by rw [runG_same]; rfl
    clear hb1 hb2
    by_cases hmany : 2000 < choices.length
    · have i8 : decide ((2000 : Int) < (choices.length : Int)) = true := decide_eq_true (by omega)
      clear hmany
      go_enter Try.func8, Try.ntmps8
      go_wp2_with (first
      | (
      go_at_call 16
      refine (HS HFa.out.dom (by omega)).mono ?_
      rintro e w1 ⟨rfl, T1, hF1, hok1⟩
      have k0 : w1.cell? ⟨w.heap.size, 0, none⟩ = some (.int .i64 places) := hF1.cell (by go_simp) (by simp only [hnew]; omega)
      have k1 : w1.cell? ⟨w.heap.size, 1, none⟩ = some (.slice IA items.length icap) := hF1.cell (by go_simp) (by simp only [hnew]; omega)
      have k2 : w1.cell? ⟨w.heap.size, 2, none⟩ = some (.slice LA l.length lcap) := hF1.cell (by go_simp) (by simp only [hnew]; omega)
      have HT1 := Lib.hid (hF1.same w.heap.size (by simp))
      have HW1 := Lib.hid (HW.out.fr hF1 (fun t h => by omega))
      have HCR1 := Lib.hid (HCR.out.ext HCE.out hF1 (fun t h => by omega))
      have HCE1 := Lib.hid (HCE.out.fr hF1)
      have HF1 := Lib.hid ((HFa.out.mono (S' := fun t => 1 ≤ t.1) (fun _ h => h.elim)).trans (hF1.mono (fun t h => by omega)))
      clear hF1)
      | (
      go_at_call 39
      refine (p_begun 100 HW1.out HF1.out.dom (by omega) HB1.out HB2.out).mono ?_
      rintro e w2 ⟨p, rfl, T2, hL2, hF2⟩
      have m1 : w2.cell? ⟨w.heap.size, 1, none⟩ = some (.slice IA items.length icap) := hF2.cell k1 (by simp only [HT1.out, hnew]; omega)
      have HT2 := Lib.hid ((hF2.same w.heap.size (World.block_lt_of_cell? w1 _ k0)).trans HT1.out)
      have HL2 := Lib.hid hL2
      have HCR2 := Lib.hid (HCR1.out.ext HCE1.out hF2 (fun t h => by omega))
      have HCE2 := Lib.hid (HCE1.out.fr hF2)
      have HF2 := Lib.hid (HF1.out.trans (hF2.mono (fun t h => by omega)))
      clear hF2 hL2 k0 k1 k2))
      go_ret
      exact ⟨rfl, T2, HF2.out⟩
    · have i8 : decide ((2000 : Int) < (choices.length : Int)) = false := decide_eq_false (by omega)
      have hc2000 : choices.length ≤ 2000 := by omega
      clear hmany
      have HN0 := Lib.hid hn0
      clear hn0
      go_enter Try.func8, Try.ntmps8
      go_wp2_with (first
      | (
      go_at_call 16
      refine (HS HFa.out.dom (by omega)).mono ?_
      rintro e w1 ⟨rfl, T1, hF1, hok1⟩
      have k0 : w1.cell? ⟨w.heap.size, 0, none⟩ = some (.int .i64 places) := hF1.cell (by go_simp) (by simp only [hnew]; omega)
      have k1 : w1.cell? ⟨w.heap.size, 1, none⟩ = some (.slice IA items.length icap) := hF1.cell (by go_simp) (by simp only [hnew]; omega)
      have k2 : w1.cell? ⟨w.heap.size, 2, none⟩ = some (.slice LA l.length lcap) := hF1.cell (by go_simp) (by simp only [hnew]; omega)
      have HT1 := Lib.hid (hF1.same w.heap.size (by simp))
      have HW1 := Lib.hid (HW.out.fr hF1 (fun t h => by omega))
      have HCR1 := Lib.hid (HCR.out.ext HCE.out hF1 (fun t h => by omega))
      have HCE1 := Lib.hid (HCE.out.fr hF1)
      have HF1 := Lib.hid ((HFa.out.mono (S' := fun t => 1 ≤ t.1) (fun _ h => h.elim)).trans (hF1.mono (fun t h => by omega)))
      clear hF1)
      | (
      go_at_call 39
      refine (p_begun 100 HW1.out HF1.out.dom (by omega) HB1.out HB2.out).mono ?_
      rintro e w2 ⟨p, rfl, T2, hL2, hF2⟩
      have m1 : w2.cell? ⟨w.heap.size, 1, none⟩ = some (.slice IA items.length icap) := hF2.cell k1 (by simp only [HT1.out, hnew]; omega)
      have HT2 := Lib.hid ((hF2.same w.heap.size (World.block_lt_of_cell? w1 _ k0)).trans HT1.out)
      have HL2 := Lib.hid hL2
      have HCR2 := Lib.hid (HCR1.out.ext HCE1.out hF2 (fun t h => by omega))
      have HCE2 := Lib.hid (HCE1.out.fr hF2)
      have HF2 := Lib.hid (HF1.out.trans (hF2.mono (fun t h => by omega)))
      clear hF2 hL2 k0 k1 k2)
      | (
        go_at_call 37
        refine (calm_ok choices HL2.out (by decide) HCR2.out HCE2.out (by omega)).mono ?_
        rintro e w3 ⟨rfl, m, T3, hfl, hm, hL3, hF3⟩
        have m3 : w3.cell? ⟨w.heap.size, 1, none⟩ = some (.slice IA items.length icap) := hF3.cell m1 (by simp only [HT2.out, hnew]; omega)
        have HL3 := Lib.hid hL3
        have HFL := Lib.hid hfl
        have HF3 := Lib.hid (HF2.out.trans (hF3.mono (fun t h => by omega)))
        have HT3 := Lib.hid ((hF3.same w.heap.size (World.block_lt_of_cell? w2 _ m1)).trans HT2.out)
        clear hL3 hfl hF3 m1))
      have hgn : (calmN choices (runG (beginG places.toNat items) l) m).1.n = items.length := by rw [(calmN_n _ _ _).1]; exact HN0.out
      generalize (calmN choices (runG (beginG places.toNat items) l) m).1 = g at HL3 HFL hgn
      have HN := Lib.hid hgn
      have HST := Lib.hid (still_of HFL.out)
      clear hgn hm
      go_wp2_with fail
      go_loopw [40] (fun i wr => ∃ n : Nat, n ≤ items.length ∧ i = .int .i64 n ∧ ∃ Tr : Nat → Tag, Hid (LiveP Tr 100 wr p g 80) ∧ Hid (Fr (fun t => 1 ≤ t.1) tag Tr w wr)) (fun i _ => items.length - (intOf i).toNat)
      case atStart => exact ⟨0, Nat.zero_le _, rfl, T3, HL3, HF3⟩
      case round =>
        obtain ⟨n, hn, rfl, Tr, HLr, HFr⟩ := hrel
        by_cases hlt : n < items.length
        · have HJ : Hid (n < g.n) := Lib.hid (by rw [HN.out]; exact hlt)
          have HFREE := Lib.hid (still_free HLr.out.good.inv HST.out n)
          go_wp2_with (first
          | (
            go_at_call 41
            refine (p_holder (j := n) HLr.out HJ.out).mono ?_
            rw [show holdI (g.items n) = -1 from by rw [holdI, HFREE.out.1]]
            rintro e w4 ⟨rfl, hF4⟩
            have HL4 := Lib.hid (HLr.out.frF hF4)
            have HF4 := Lib.hid (HFr.out.trans (hF4.mono (fun _ h => h.elim)))
            clear hF4)
          | (
            go_at_call 40
            refine (p_waits (j := n) 300 (by omega) HL4.out HJ.out (by decide)).mono ?_
            rintro e w5 ⟨v5, rfl, T5, i5, hrow, hF5⟩
            obtain ⟨A5, c5, h5, _, _⟩ := hrow.form
            rw [HFREE.out.2] at h5
            simp only [List.length_nil] at h5
            subst h5
            have HL5 := Lib.hid (HL4.out.frF hF5)
            have HF5 := Lib.hid (HF4.out.trans (hF5.mono (fun _ h => h.elim)))
            clear hF5 hrow))
          go_roundw
          case rel => exact ⟨n + 1, by omega, by go_num, T5, HL5, HF5⟩
          case measure => simp [intOf]; omega
        · have hnn : n = items.length := by omega
          subst hnn
          go_wp2_with (
            go_at_call 48
            refine (p_proposals 400 HLr.out (by omega) (by decide)).mono ?_
            rintro e w6 ⟨v6, vs, rfl, T6, hrow, _, hF6⟩
            obtain ⟨A6, c6, rfl, _, _⟩ := hrow.form
            have HL6 := Lib.hid (HLr.out.fr hF6 (fun t h => by omega))
            have HF6 := Lib.hid (HFr.out.trans (hF6.mono (fun t h => by omega)))
            clear hrow hF6)
          have hnp6 : g.np ≤ 80 := HL6.out.np
          go_loopw [74] (fun i wr => ∃ n : Nat, n ≤ g.np ∧ i = .int .i64 n ∧ ∃ Tr : Nat → Tag, Hid (LiveP Tr 100 wr p g 80) ∧ Hid (Fr (fun t => 1 ≤ t.1) tag Tr w wr)) (fun i _ => g.np - (intOf i).toNat)
          case atStart => exact ⟨0, Nat.zero_le _, rfl, T6, HL6, HF6⟩
          case round =>
            obtain ⟨n, hn, rfl, Tr, HLr, HFr⟩ := hrel
            by_cases hlt : n < g.np
            · have HS1 : Hid (((g.props n).st == 1) = false) := Lib.hid (by rw [beq_eq_false_iff_ne]; exact still_closed HLr.out.good.inv HST.out n)
              go_wp2_with (
                go_at_call 38
                refine (p_status (n := n) HLr.out hlt).mono ?_
                rintro e w7 ⟨rfl, hF7⟩
                have hs1 := HS1.out
                have HL7 := Lib.hid (HLr.out.frF hF7)
                have HF7 := Lib.hid (HFr.out.trans (hF7.mono (fun _ h => h.elim)))
                clear hF7)
              go_roundw
              case rel => exact ⟨n + 1, by omega, by go_num, Tr, HL7, HF7⟩
              case measure => simp [intOf]; omega
            · have hnn : n = g.np := by omega
              subst hnn
              go_wp2_with fail
              go_ret
              exact ⟨rfl, Tr, HFr.out⟩
end Go.Proofs.Ytclkokkppgchfaa

/- The versions of all items. -/
namespace Go.Proofs.Ytclkokkppgchfaa
open Go.RowKit Go.Ng Go.Proofs.YtclkokkppgchfaaW.PrintLast
set_option linter.unusedSimpArgs false
set_option linter.unusedVariables false
/-- The versions of the first n items. -/
def versG (g : G) : Nat → List Int
  | 0 => []
  | n + 1 => versG g n ++ [(g.items n).ver]
theorem versG_len (g : G) : ∀ n, (versG g n).length = n
  | 0 => rfl
  | n + 1 => by rw [versG, List.length_append, versG_len g n]; rfl
theorem versG_get (g : G) : ∀ {n j : Nat}, j < n → (versG g n)[j]? = some (g.items j).ver
  | n + 1, j, h => by
    rw [versG]
    by_cases e : j < n
    · rw [List.getElem?_append_left (by rw [versG_len]; exact e)]; exact versG_get g e
    · have : j = n := by omega
      subst this
      rw [List.getElem?_append_right (by rw [versG_len]; omega), versG_len]; simp
set_option maxRecDepth 100000 in
set_option maxHeartbeats 1600000 in
theorem p_versions {tag : Nat → Tag} {w : World} {B p k : Nat} {g : G} (L : LiveP tag B w p g k) (t : Tag) (ht : ∀ b, b < w.heap.size → tag b ≠ t) (htB : t.1 < B ∨ B + 32 < t.1) (ht0 : t.1 ≠ 0) :
    Calls Try.prog 53 #[.pointer (some ⟨p, 0, none⟩), .int .i64 (g.n : Int)] w fun e w' => ∃ v, e = .returned (.tuple #[v, .bool true]) ∧ ∃ tag', Row tag' t 3 1 w' v g.n (ints (versG g g.n)) ∧ Fr (fun _ => False) tag tag' w w' := by
  obtain ⟨i0, hi, hz0, hz1, hz2⟩ := info_parts Try.info3
  have HL := Lib.hid L
  have hn64 := L.n64
  have hok := L.ok
  clear L
  go_enter Try.func53, Try.ntmps53
  go_wp2_with fail
  go_loopw [11, 6] (fun i v wr => ∃ n : Nat, n ≤ g.n ∧ i = .int .i64 n ∧ ∃ A2 cap2, v = .slice A2 n cap2 ∧ ∃ tagr, Hid (Row tagr t 3 1 wr (.slice A2 n cap2) n (ints (versG g n))) ∧ Hid (Fr (· = t) tag tagr w wr)) (fun i _ _ => g.n - (intOf i).toNat)
  case atStart => exact ⟨0, Nat.zero_le _, rfl, none, 0, rfl, tag, Lib.hid (Row.nil _ _ _ _ _), Lib.hid (Fr.refl hok)⟩
  case round =>
    obtain ⟨n, hn, rfl, A2, cap2, rfl, tagr, HR, HG⟩ := hrel
    by_cases hlt : n < g.n
    · have HLr := Lib.hid (HL.out.fr HG.out (fun s hs => by subst hs; exact htB))
      obtain ⟨ver, hver⟩ : ∃ x, x = (g.items n).ver := ⟨_, rfl⟩
      have HVR := Lib.hid hver
      clear hver
      go_wp2_with (first
      | (
        go_at_call 50
        refine (p_version (j := n) HLr.out hlt).mono ?_
        rw [← HVR.out]
        rintro e w2 ⟨rfl, hF2⟩
        have HR2 := Lib.hid (HR.out.fr hF2 (fun x => x))
        have HG2 := Lib.hid (HG.out.trans (hF2.mono (fun _ h => h.elim)))
        have hokr := HG2.out.dom
        clear hF2)
      | (at_builtin; (refine append_list rfl (.tmp 22) (.tmp 24) 22 rfl (by rfl) (by rfl) (HR2.out.alloc _) (hokr.alloc _) Try.underlying22 hi hz0 hz1 hz2 rfl (by decide) [.int .i64 ver] rfl (news_at (heap_alloc_at _ _)) (by simp [Value.oneCell']) (by decide) (by unfold maxLen; omega) (by omega) ?_); intro g3 cap3 w3 tag3 hrow hfr))
      go_roundw
      case rel =>
        refine ⟨n + 1, by omega, by go_num, _, _, rfl, tag3, Lib.hid ?_, Lib.hid ((HG2.out.al _).trans hfr)⟩
        rw [versG, ← HVR.out, ints_snoc]
        exact hrow
      case measure => simp [intOf]; omega
    · have : n = g.n := by omega
      subst this
      have HF := Lib.hid (HG.out.fresh ht)
      go_wp2
      go_ret2
      exact ⟨_, rfl, tagr, HR.out, HF.out⟩
end Go.Proofs.Ytclkokkppgchfaa

/- Why a proposal is refused; what deliveries leave as it is. -/
namespace Go.Ng
set_option linter.unusedVariables false
section
variable {g : G}
theorem takeG_hist (m : Post) (j : Int) : ((g.takeG m).1.items j).hist = (g.items j).hist ∨ ∃ q, (g.items j).hold = some q ∧ ((g.takeG m).1.items j).hist = (g.items j).hist ++ [q] := by
  have hs : ∀ (a : Int) (x : It), x.hist = (g.items a).hist → ((g.setI a x).items j).hist = (g.items j).hist := fun a x hx => by
    by_cases e : j = a
    · subst e; simp [G.setI, hx]
    · simp [G.setI, e]
  unfold G.takeG
  split
  · left; unfold G.grantedG; split
    · split <;> rfl
    · rfl
  · split
    · left; unfold G.refusedG; split <;> rfl
    · split
      · left; unfold G.askedG; split
        · rfl
        · split
          · exact hs _ _ rfl
          · split <;> exact hs _ _ rfl
      · split
        · unfold G.committedG; split
          · rename_i h
            by_cases e : j = m.item
            · subst e; right; exact ⟨_, h, by simp [G.setI]⟩
            · left; simp [G.setI, e]
          · exact .inl rfl
        · left; unfold G.freedG; split
          · split <;> exact hs _ _ rfl
          · exact hs _ _ rfl
theorem takeG_dec (m : Post) : (g.takeG m).1.dec = g.dec ∨ (g.takeG m).1.dec = g.dec ++ [m.prop] := by
  unfold G.takeG
  split
  · unfold G.grantedG; split
    · split
      · exact .inl rfl
      · exact .inr rfl
    · exact .inl rfl
  · left; split
    · unfold G.refusedG; split <;> rfl
    · split
      · unfold G.askedG; split
        · rfl
        · split
          · rfl
          · split <;> rfl
      · split
        · unfold G.committedG; split <;> rfl
        · unfold G.freedG; split
          · split <;> rfl
          · rfl
/-- The state of a proposal changes only if it is open, to done or to refused. -/
theorem takeG_st (m : Post) (p : Int) : ((g.takeG m).1.props p).st = (g.props p).st ∨ ((g.props p).st = 1 ∧ p = m.prop ∧ g.at_ p m.item ∧ (((g.takeG m).1.props p).st = 2 ∨ m.kind = 3 ∧ ((g.takeG m).1.props p).st = 3)) := by
  unfold G.takeG
  split
  · unfold G.grantedG; split
    · rename_i h
      split
      · left; by_cases e : p = m.prop
        · subst e; simp [G.setP]
        · simp [G.setP, e]
      · by_cases e : p = m.prop
        · subst e; right; exact ⟨h.1, rfl, h, .inl (by simp [G.setP])⟩
        · left; simp [G.setP, e]
    · exact .inl rfl
  · split
    · rename_i hk
      unfold G.refusedG; split
      · rename_i h
        by_cases e : p = m.prop
        · subst e; right; exact ⟨h.1, rfl, h, .inr ⟨hk, by simp [G.setP]⟩⟩
        · left; simp [G.setP, e]
      · exact .inl rfl
    · left; split
      · unfold G.askedG; split
        · rfl
        · split
          · rfl
          · split <;> rfl
      · split
        · unfold G.committedG; split <;> rfl
        · unfold G.freedG; split
          · split <;> rfl
          · rfl
/-- When a refusal is sent. -/
theorem takeG_no {m x : Post} (h : x ∈ (g.takeG m).2.1) (hx : x.kind = 3) :
    (m.kind = 1 ∧ x.prop = m.prop ∧ x.item = m.item ∧ m.version ≠ (g.items m.item).ver ∧ m.prop ∉ (g.items m.item).thr) ∨
    (x.item = m.item ∧ (g.items m.item).hold = some m.prop ∧ x.prop ∈ (g.items m.item).queue ∧ ((g.takeG m).1.items m.item).hist = (g.items m.item).hist ++ [m.prop]) := by
  unfold G.takeG at h ⊢
  split at h
  · rename_i hk
    unfold G.grantedG at h
    split at h
    · split at h
      · rw [List.mem_singleton.1 h] at hx; simp [G.mAsk] at hx
      · simp only [List.mem_map] at h; obtain ⟨c, _, rfl⟩ := h; simp [G.mCommit] at hx
    · simp at h
  · split at h
    · unfold G.refusedG at h
      split at h
      · simp only [List.mem_map] at h; obtain ⟨c, _, rfl⟩ := h; simp [G.mFree] at hx
      · simp at h
    · split at h
      · rename_i hk
        unfold G.askedG at h
        split at h
        · simp at h
        · rename_i h0
          simp only [not_or] at h0
          split at h
          · rename_i hv
            rw [List.mem_singleton.1 h]
            exact .inl ⟨hk, rfl, rfl, hv, h0.1⟩
          · split at h
            · simp at h
            · rw [List.mem_singleton.1 h] at hx; simp [G.mGrant] at hx
      · split at h
        · rename_i h2 h3 h1 h4
          unfold G.committedG at h
          split at h
          · rename_i hh
            simp only [List.mem_map] at h
            obtain ⟨q, hq, rfl⟩ := h
            refine .inr ⟨rfl, hh, hq, ?_⟩
            rw [if_neg h2, if_neg h3, if_neg h1, if_pos h4]
            unfold G.committedG
            rw [if_pos hh]
            simp [G.setI]
          · simp at h
        · unfold G.freedG at h
          split at h
          · split at h
            · simp at h
            · rw [List.mem_singleton.1 h] at hx; simp [G.mGrant] at hx
          · simp at h

/-- R p j h: the item j, moved by those of h, gives ground to refuse p. -/
structure Why (g : G) (R : Int → Int → List Int → Prop) : Prop where
  msg : ∀ p j, g.has 3 p j → R p j (g.items j).hist
  st : ∀ p, (g.props p).st = 3 → ∃ c ∈ (g.props p).claims, R p c.item (g.items c.item).hist
theorem at_mem {p j : Int} (h : g.at_ p j) : ∃ c ∈ (g.props p).claims, c.item = j := by
  obtain ⟨_, h⟩ := h
  rw [Option.map_eq_some_iff] at h
  obtain ⟨c, hc, rfl⟩ := h
  exact ⟨c, List.mem_of_getElem? hc, rfl⟩
theorem Why.deliver {R : Int → Int → List Int → Prop} {i : Nat} {m : Post} (K : Why g R) (I : NGood g) (hi : g.fl[i]? = some m)
    (mono : ∀ p j h q, R p j h → R p j (h ++ [q]))
    (ask : ∀ p (c : Clm), c ∈ (g.props p).claims → c.version ≠ (g.items c.item).ver → p ∉ (g.items c.item).thr → R p c.item (g.items c.item).hist)
    (queue : ∀ p q j, p ∈ (g.items j).queue → (g.items j).hold = some q → R p j ((g.items j).hist ++ [q])) : Why (g.deliverG i m) R := by
  have lift : ∀ p j, R p j (g.items j).hist → R p j ((g.takeG m).1.items j).hist := fun p j h => by
    rcases takeG_hist (g := g) m j with e | ⟨q, _, e⟩
    · rw [e]; exact h
    · rw [e]; exact mono _ _ _ _ h
  have hcl := (takeG_same (g := g) m).2.2.2.2.2.2
  have hm := List.mem_of_getElem? hi
  refine ⟨?_, ?_⟩
  · rintro p j ⟨x, hx, h1, rfl, rfl⟩
    rcases List.mem_append.1 hx with hx | hx
    · exact lift _ _ (K.msg _ _ ⟨x, List.mem_of_mem_eraseIdx hx, h1, rfl, rfl⟩)
    · rcases takeG_no hx h1 with ⟨hk, h2, h3, h4, h5⟩ | ⟨h2, h3, h4, h5⟩
      · have := ask m.prop ⟨m.item, m.version⟩ ((I.route m hm).ask hk) h4 h5
        rw [h2, h3]
        exact lift _ _ this
      · show R x.prop x.item ((g.takeG m).1.items x.item).hist
        rw [h2, h5]
        exact queue _ _ _ h4 h3
  · intro p hp
    change ((g.takeG m).1.props p).st = 3 at hp
    rcases takeG_st (g := g) m p with e | ⟨h1, rfl, h3, h4⟩
    · rw [e] at hp
      obtain ⟨c, hc, hR⟩ := K.st p hp
      exact ⟨c, by rw [← hcl p] at hc; exact hc, lift _ _ hR⟩
    · rcases h4 with h4 | ⟨hk, _⟩
      · omega
      · obtain ⟨c, hc, hci⟩ := at_mem h3
        refine ⟨c, by rw [← hcl m.prop] at hc; exact hc, lift _ _ ?_⟩
        rw [hci]
        exact K.msg _ _ ⟨m, hm, hk, rfl, rfl⟩

/-- Proposals that claim the present versions, on a net that was calm. -/
structure Ahead (g0 g : G) : Prop where
  good : NGood g
  why : Why g fun p j h => p < g0.np ∨ (g0.items j).hist.length < h.length
  ver : ∀ p : Int, g0.np ≤ p → ∀ c ∈ (g.props p).claims, c.version = (g0.items c.item).hist.length
  hist : ∀ j, (g0.items j).hist.length ≤ (g.items j).hist.length
  dec : g0.dec <+: g.dec
  old : ∀ p : Int, p < g0.np → (g.props p).claims = (g0.props p).claims ∧ (g.props p).st = (g0.props p).st
  st4 : ∀ p : Int, g0.np ≤ p → (g.props p).st ≠ 4
  np : g0.np ≤ g.np
  n : g.n = g0.n
  places : g.places = g0.places
theorem claims_rng (I : NGood g) {p : Int} {c : Clm} (hc : c ∈ (g.props p).claims) : 0 ≤ p ∧ p < g.np ∧ 0 ≤ c.item ∧ c.item < g.n := by
  obtain ⟨i, hi⟩ := cl_of_mem hc
  exact I.inv.rng _ _ _ hi
theorem st_rng (I : NGood g) {p : Int} (h : (g.props p).st ≠ 0) : 0 ≤ p ∧ p < g.np := by
  cases hc : (g.props p).claims with
  | nil => exact absurd ((I.inv.zero p).2 hc) h
  | cons c t => have := claims_rng I (p := p) (c := c) (by simp [hc]); omega
theorem Ahead.init {g0 : G} (I : NGood g0) (S : Still g0.has) : Ahead g0 g0 := by
  refine ⟨I, ⟨fun p j h => absurd h (S _ _ _), fun p hp => ?_⟩, fun p hp c hc => ?_, fun _ => Nat.le_refl _, List.prefix_refl _, fun _ _ => ⟨rfl, rfl⟩, fun p hp h4 => ?_, Nat.le_refl _, rfl, rfl⟩
  · have := st_rng I (p := p) (by omega)
    cases hc : (g0.props p).claims with
    | nil => have := (I.inv.zero p).2 hc; omega
    | cons c t => exact ⟨c, by simp, .inl this.2⟩
  · have := claims_rng I hc; omega
  · have := st_rng I (p := p) (by omega); omega
theorem Ahead.deliver {g0 : G} (A : Ahead g0 g) (I0 : NGood g0) (S0 : Still g0.has) {i : Nat} {m : Post} (hi : g.fl[i]? = some m) : Ahead g0 (g.deliverG i m) := by
  obtain ⟨_, _, e1, e2, e3, _, hcl⟩ := takeG_same (g := g) m
  refine ⟨A.good.deliver hi, A.why.deliver A.good hi ?_ ?_ ?_, fun p hp c hc => A.ver p hp c (by rw [← hcl p]; exact hc), fun j => ?_, ?_, fun p hp => ⟨(hcl p).trans (A.old p hp).1, ?_⟩, fun p hp => ?_, by have := A.np; show g0.np ≤ (g.takeG m).1.np; omega, e1.trans A.n, e3.trans A.places⟩
  · intro p j h q hR
    rcases hR with hR | hR
    · exact .inl hR
    · right; rw [List.length_append]; omega
  · intro p c hc hv _
    by_cases hp : p < g0.np
    · exact .inl hp
    · right
      have h1 := A.ver p (by omega) c hc
      have h2 := A.good.inv.vh c.item
      have h3 := A.hist c.item
      omega
  · intro p q j _ _
    right
    have := A.hist j
    rw [List.length_append]; simp; omega
  · have := A.hist j
    rcases takeG_hist (g := g) m j with e | ⟨q, _, e⟩
    · show _ ≤ ((g.takeG m).1.items j).hist.length; rw [e]; exact this
    · show _ ≤ ((g.takeG m).1.items j).hist.length; rw [e, List.length_append]; omega
  · rcases takeG_dec (g := g) m with e | e
    · show _ <+: (g.takeG m).1.dec; rw [e]; exact A.dec
    · show _ <+: (g.takeG m).1.dec; rw [e]; exact A.dec.trans (List.prefix_append _ _)
  · show ((g.takeG m).1.props p).st = _
    rcases takeG_st (g := g) m p with e | ⟨h1, _⟩
    · rw [e]; exact (A.old p hp).2
    · rw [(A.old p hp).2] at h1
      exact absurd h1 (still_closed I0.inv S0 p)
  · show ((g.takeG m).1.props p).st ≠ 4
    rcases takeG_st (g := g) m p with e | ⟨h1, _, _, h4⟩
    · rw [e]; exact A.st4 p hp
    · rcases h4 with h4 | ⟨_, h4⟩ <;> omega
theorem Ahead.propose {g0 : G} (A : Ahead g0 g) {place : Int} {l : List Clm} {c : Clm} (hl : ClaimsOk g.n l) (hc : l[0]? = some c) (hv : ∀ c ∈ l, c.version = (g0.items c.item).hist.length) : Ahead g0 (g.proposeG place l c) := by
  have hp : ∀ p, p ≠ (g.np : Int) → (g.proposeG place l c).props p = g.props p := fun p e => by simp [G.proposeG, G.setP, e]
  have hq : (g.proposeG place l c).props g.np = ⟨l, 1, 0⟩ := by simp [G.proposeG, G.setP]
  have hnp := A.np
  refine ⟨A.good.propose hl hc, ⟨?_, ?_⟩, ?_, A.hist, A.dec, ?_, ?_, ?_, A.n, A.places⟩
  · rintro p j ⟨x, hx, h1, h2, h3⟩
    rcases List.mem_append.1 hx with hx | hx
    · exact A.why.msg p j ⟨x, hx, h1, h2, h3⟩
    · rw [List.mem_singleton.1 hx] at h1; simp at h1
  · intro p h3
    by_cases e : p = (g.np : Int)
    · subst e; rw [hq] at h3; simp at h3
    · rw [hp p e] at h3 ⊢; exact A.why.st p h3
  · intro p h0 d hd
    by_cases e : p = (g.np : Int)
    · subst e; rw [hq] at hd; exact hv d hd
    · rw [hp p e] at hd; exact A.ver p h0 d hd
  · intro p h0
    rw [hp p (by omega)]; exact A.old p h0
  · intro p h0
    by_cases e : p = (g.np : Int)
    · subst e; rw [hq]; simp
    · rw [hp p e]; exact A.st4 p h0
  · show g0.np ≤ g.np + 1; omega
/-- Whoever moved an item since is one of the new ones, and is done. -/
theorem Ahead.moved {g0 : G} (A : Ahead g0 g) (I0 : NGood g0) (S0 : Still g0.has) (S : Still g.has) {j : Int} (h : (g0.items j).hist.length < (g.items j).hist.length) :
    ∃ q : Int, g0.np ≤ q ∧ q < g.np ∧ (g.props q).st = 2 ∧ q ∈ g.dec ∧ q ∉ g0.dec := by
  obtain ⟨r, hr⟩ := A.dec
  have h1 := still_hist A.good.inv S j
  have h0 := still_hist I0.inv S0 j
  have hold : g0.dec.filter (g.claimsI j) = g0.dec.filter (g0.claimsI j) := by
    apply List.filter_congr
    intro q hq
    have := (moment I0.inv hq).2.1
    rw [G.claimsI, G.claimsI, (A.old q this).1]
  rw [← hr, List.filter_append, hold, h0] at h1
  have : r.filter (g.claimsI j) ≠ [] := by
    intro e
    rw [e, List.append_nil] at h1
    rw [h1] at h; omega
  obtain ⟨q, hq⟩ := List.exists_mem_of_ne_nil _ this
  have hqr := (List.mem_filter.1 hq).1
  have hqd : q ∈ g.dec := by rw [← hr]; exact List.mem_append.2 (.inr hqr)
  have hst := (A.good.inv.e1 q).1 hqd
  have hnd := A.good.inv.e0
  rw [← hr] at hnd
  have hno : q ∉ g0.dec := fun hq0 => (List.nodup_append.1 hnd).2.2 q hq0 q hqr rfl
  have hrng := st_rng A.good (p := q) (by omega)
  refine ⟨q, ?_, hrng.2, hst, hqd, hno⟩
  by_cases e : q < g0.np
  · exact absurd ((I0.inv.e1 q).2 (by rw [← (A.old q e).2]; exact hst)) hno
  · omega
theorem Ahead.some {g0 : G} (A : Ahead g0 g) (I0 : NGood g0) (S0 : Still g0.has) (S : Still g.has) (h : g0.np < g.np) : g0.dec.length < g.dec.length := by
  have hd := A.dec
  obtain ⟨q, hq, hq0⟩ : ∃ q, q ∈ g.dec ∧ q ∉ g0.dec := by
    have hf := A.good.inv.full g0.np (by omega) (by omega)
    rcases A.good.inv.st0 g0.np with e | e | e | e | e
    · exact absurd ((A.good.inv.zero _).1 e) hf
    · exact absurd e (still_closed A.good.inv S _)
    · refine ⟨g0.np, (A.good.inv.e1 _).2 e, fun h' => ?_⟩
      have := (moment I0.inv h').2.1; omega
    · obtain ⟨c, hc, hR⟩ := A.why.st _ e
      rcases hR with hR | hR
      · omega
      · obtain ⟨q, _, _, _, h1, h2⟩ := A.moved I0 S0 S hR
        exact ⟨q, h1, h2⟩
    · exact absurd e (A.st4 _ (by omega))
  obtain ⟨r, hr⟩ := hd
  rw [← hr, List.length_append]
  have : r ≠ [] := by
    rintro rfl
    rw [List.append_nil] at hr
    rw [← hr] at hq
    exact hq0 hq
  have := List.length_pos_iff.2 this
  omega
theorem Ahead.refused {g0 : G} (A : Ahead g0 g) {p : Int} (hp : g0.np ≤ p) (h : (g.props p).st = 3) : ∃ c ∈ (g.props p).claims, c.version ≠ (g.items c.item).ver := by
  obtain ⟨c, hc, hR⟩ := A.why.st p h
  refine ⟨c, hc, ?_⟩
  rw [A.ver p hp c hc, A.good.inv.vh]
  rcases hR with hR | hR <;> omega
theorem Ahead.one {g0 : G} (A : Ahead g0 g) (I0 : NGood g0) (S0 : Still g0.has) (S : Still g.has) (h : g.np = g0.np + 1) : (g.props g0.np).st = 2 := by
  have hf := A.good.inv.full g0.np (by omega) (by omega)
  rcases A.good.inv.st0 g0.np with e | e | e | e | e
  · exact absurd ((A.good.inv.zero _).1 e) hf
  · exact absurd e (still_closed A.good.inv S _)
  · exact e
  · obtain ⟨c, hc, hR⟩ := A.why.st _ e
    rcases hR with hR | hR
    · omega
    · obtain ⟨q, h1, h2, h3, _⟩ := A.moved I0 S0 S hR
      have : q = g0.np := by omega
      subst this; exact h3
  · exact absurd e (A.st4 _ (by omega))
end
end Go.Ng

/- How often each item was moved by the proposals that were decided first. -/
namespace Go.Proofs.Ytclkokkppgchfaa
open Go.RowKit Go.Ng Go.Proofs.YtclkokkppgchfaaW.PrintLast
set_option linter.unusedSimpArgs false
set_option linter.unusedVariables false
theorem Row.free {tag : Nat → Tag} {t : Tag} {E : Nat} {w : World} {b n cap j : Nat} {ks : List Value} (h : Row tag t E 1 w (.slice (some ⟨b, 0, none⟩) n cap) n ks) (hj : j < n) : w.frozen? ⟨b, j, none⟩ = false := by
  rcases h with ⟨h, ht⟩ | ⟨_, h0, h1⟩
  · rcases h.2 with ⟨h', _⟩ | ⟨g, cap', cur, hv, h0, hg, h1, h2, h3, h4⟩
    · cases h'
    · injection hv with hv _ hc
      injection hv with hv
      injection hv with hv
      subst hv
      exact free_of hg j
  · omega
def zs (n : Nat) : Array Value := madeCells #[.int .i64 0] n
theorem zs_size (n : Nat) : (zs n).size = n * 1 := by simp [zs, madeCells]
theorem zs_list (n : Nat) : (zs n).toList = ints (List.replicate n 0) := by
  apply List.ext_getElem?
  intro i
  by_cases h : i < n
  · simp [zs, madeCells, ints, h, Nat.mod_one]
  · rw [List.getElem?_eq_none (by simp [zs, madeCells]; omega), List.getElem?_eq_none (by simp [ints]; omega)]
def cntN (g : G) (d : List Int) (cs : List Clm) (j : Nat) : Nat := (d.filter (g.claimsI j)).length + (if cs.any (fun c => c.item == (j : Int)) then 1 else 0)
def atL (g : G) (d : List Int) (cs : List Clm) : List Int := (List.range g.n).map fun j => (cntN g d cs j : Int)
theorem atL_len (g : G) (d : List Int) (cs : List Clm) : (atL g d cs).length = g.n := by simp [atL]
theorem atL_get (g : G) (d : List Int) (cs : List Clm) {j : Nat} (h : j < g.n) : (atL g d cs)[j]? = some (cntN g d cs j : Int) := by
  simp [atL, h]
theorem atL_nil (g : G) : atL g [] [] = List.replicate g.n 0 := by
  apply List.ext_getElem?
  intro i
  by_cases h : i < g.n
  · rw [atL_get _ _ _ h]; simp [cntN, h]
  · rw [List.getElem?_eq_none (by rw [atL_len]; omega), List.getElem?_eq_none (by simp; omega)]
theorem cnt_bd {g : G} (I : NGood g) (d r : List Int) (h : g.dec = d ++ r) (cs : List Clm) (j : Nat) (hn : g.np ≤ 80) : cntN g d cs j ≤ 81 := by
  have h1 := dec_len I
  have h2 : d.length ≤ g.dec.length := by rw [h, List.length_append]; omega
  have h3 := List.length_filter_le (g.claimsI j) d
  unfold cntN
  split <;> omega
section
variable {g : G}
/-- The item of a claim is not among those of the claims ahead of it. -/
theorem take_fresh (I : NGood g) {p : Int} {k : Nat} {c : Clm} (hc : (g.props p).claims[k]? = some c) : ((g.props p).claims.take k).any (fun x => x.item == c.item) = false := by
  rw [List.any_eq_false]
  intro x hx
  obtain ⟨i, hi⟩ := List.getElem?_of_mem hx
  rw [List.getElem?_take] at hi
  split at hi
  · rename_i hik
    have := I.inv.srt p i k x.item c.item (by simp [G.cl, hi]) (by simp [G.cl, hc]) hik
    simp; omega
  · cases hi
theorem serial_at (I : NGood g) (S : Still g.has) {d r : List Int} {p : Int} (hd : g.dec = d ++ p :: r) {k j : Nat} {v : Int} (hc : (g.props p).claims[k]? = some ⟨j, v⟩) : v = (cntN g d ((g.props p).claims.take k) j : Nat) := by
  have h1 := serial I.inv S (fun p c c' h h' e => item_ver I.inv h h' e) hd (List.mem_of_getElem? hc)
  have h2 := take_fresh I hc
  simp only at h1 h2
  rw [cntN, h2]
  simpa using h1
theorem serial_set (I : NGood g) {p : Int} {k j : Nat} {v : Int} (d : List Int) (hc : (g.props p).claims[k]? = some ⟨j, v⟩) :
    (atL g d ((g.props p).claims.take k)).set j ((cntN g d ((g.props p).claims.take k) j : Int) + 1) = atL g d ((g.props p).claims.take (k + 1)) := by
  have hk := (List.getElem?_eq_some_iff.1 hc).1
  have ht : (g.props p).claims.take (k + 1) = (g.props p).claims.take k ++ [⟨j, v⟩] := by
    rw [List.take_succ_eq_append_getElem hk]
    congr 2
    exact (List.getElem?_eq_some_iff.1 hc).2
  have hf := take_fresh I hc
  simp only at hf
  apply List.ext_getElem?
  intro i
  rw [List.getElem?_set]
  by_cases h : i < g.n
  · rw [atL_get g d ((g.props p).claims.take (k + 1)) h]
    by_cases e : j = i
    · subst e
      rw [if_pos rfl, atL_len, if_pos h]
      congr 1
      simp only [cntN, hf, ht, List.any_append]
      simp
    · rw [if_neg e, atL_get _ _ _ h]
      have : ([(⟨j, v⟩ : Clm)].any fun c => c.item == (i : Int)) = false := by simp; omega
      simp only [cntN, ht, List.any_append, this, Bool.or_false]
  · have e1 : (atL g d ((g.props p).claims.take (k + 1)))[i]? = none := List.getElem?_eq_none (by rw [atL_len]; omega)
    have e2 : (atL g d ((g.props p).claims.take k))[i]? = none := List.getElem?_eq_none (by rw [atL_len]; omega)
    rw [e1, e2, atL_len]
    split
    · rw [if_neg (by omega)]
    · rfl
theorem serial_done (d : List Int) (p : Int) : atL g d (g.props p).claims = atL g (d ++ [p]) [] := by
  unfold atL
  congr 1
  funext j
  congr 1
  simp only [cntN, List.filter_append, List.length_append]
  have : (g.props p).claims.any (fun c => c.item == (j : Int)) = g.claimsI j p := rfl
  rw [this]
  cases h : g.claimsI j p <;> simp [h]
theorem serial_end (I : NGood g) (S : Still g.has) : atL g g.dec [] = versG g g.n := by
  apply List.ext_getElem?
  intro j
  by_cases h : j < g.n
  · rw [atL_get _ _ _ h, versG_get g h, I.inv.vh, ← still_hist I.inv S]
    simp [cntN]
  · rw [List.getElem?_eq_none (by rw [atL_len]; omega), List.getElem?_eq_none (by rw [versG_len]; omega)]
end
end Go.Proofs.Ytclkokkppgchfaa

/- Proposals: as in NgV11, with the tags of the claims' rows. -/
namespace Go.Proofs.Ytclkokkppgchfaa
open Go.RowKit Go.Ng Go.Proofs.YtclkokkppgchfaaW.PrintLast
set_option linter.unusedSimpArgs false
set_option linter.unusedVariables false
section
variable {tag : Nat → Tag} {w : World} {B p k : Nat} {g : G}
set_option maxRecDepth 100000 in
set_option maxHeartbeats 3200000 in
theorem nproposals2_ok {N : NetM} (r : Nat) (h : NRep tag B w N) (hok : TagOk tag w) (hr : r < B ∨ B + N.places.length < r) (hr0 : r ≠ 0) (hn : N.claims.length ≤ 1000) (hl : ∀ (i : Nat) (l : List Clm), N.claims[i]? = some l → l.length ≤ 1000) :
    Calls Try.prog 48 #[.pointer (some ⟨N.ptr, 0, none⟩)] w fun e w' => ∃ v vs, e = .returned v ∧ ∃ tag' : Nat → Tag, Row tag' (r, 0, 0) 34 1 w' v N.claims.length vs ∧ (∀ (i : Nat) (l : List Clm), N.claims[i]? = some l → ∃ u, vs[i]? = some u ∧ Row tag' (r, 1, (i : Int)) 69 2 w' u l.length (claims l)) ∧ Fr (fun t => t.1 = r) tag tag' w w' := by
  obtain ⟨i0, hi, hz0, hz1, hz2⟩ := info_parts Try.info34
  obtain ⟨pv, sv, fv, xv, hv, yv, dv, hce, h2, h3, h4, ⟨cvs, h5, h6⟩, h7, h8⟩ := h.cells
  obtain ⟨CA, ccap, rfl, q1, q2⟩ := h5.form
  unfold maxLen at q2
  have c3 : w.cell? ⟨N.ptr, 3, none⟩ = some (.slice CA N.claims.length ccap) := cell_of hce 3
  have hcvl : cvs.length = N.claims.length := by have := h5.len; omega
  have H5 := Lib.hid h5
  have H6 := Lib.hid h6
  have HLN := Lib.hid hl
  have HCVL := Lib.hid hcvl
  have hB0 := h.b0
  clear h hce h2 h3 h4 h5 h6 h7 h8 hl hcvl
  go_enter Try.func48, Try.ntmps48
  go_wp2_with fail
  go_loopw [3, 13] (fun a i wr => ∃ n : Nat, n ≤ N.claims.length ∧ i = .int .i64 n ∧ ∃ (Tr : Nat → Tag) (vs : List Value), Hid (Row Tr (r, 0, 0) 34 1 wr a n vs) ∧
    Hid (∀ (i : Nat) (l : List Clm), i < n → N.claims[i]? = some l → ∃ u, vs[i]? = some u ∧ Row Tr (r, 1, (i : Int)) 69 2 wr u l.length (claims l)) ∧ Hid (Fr (fun t => t.1 = r) tag Tr w wr)) (fun _ i _ => N.claims.length - (intOf i).toNat)
  case atStart => exact ⟨0, Nat.zero_le _, rfl, tag, [], Lib.hid (Row.nil _ _ _ _ _), Lib.hid (fun i l h => by omega), Lib.hid (Fr.refl hok)⟩
  case round =>
    obtain ⟨n, hn', rfl, Tr, vs, HRo, HIn, HFr⟩ := hrel
    obtain ⟨RA, rcap, rfl, _, _⟩ := HRo.out.form
    by_cases hlt : n < N.claims.length
    · obtain ⟨l, hx⟩ : ∃ l, N.claims[n]? = some l := ⟨_, List.getElem?_eq_getElem hlt⟩
      obtain ⟨u, hu, hur⟩ := H6.out n l hx
      have h5r := H5.out.fr HFr.out (show ¬ (B, 5, (0 : Int)).1 = r by simp; omega)
      obtain ⟨cb, rfl, _, _, hcell⟩ := h5r.cell rfl (j := n) (by rw [HCVL.out]; exact hlt)
      obtain ⟨UA, ucap, rfl, _, _⟩ := hur.form
      have e0 : wr.cell? ⟨cb, n, none⟩ = some (.slice UA l.length ucap) := by rw [hcell]; exact hu
      have HUR := Lib.hid ((hur.fr HFr.out (show ¬ (B, 6, (n : Int)).1 = r by simp; omega)).rd (claims_one l))
      have hll := HLN.out n l hx
      have HX := Lib.hid hx
      have i5 : (0 : Int) ≤ (n : Int) := by omega
      have i6 : (n : Int) < (N.claims.length : Int) := by omega
      have hokr := HFr.out.dom
      clear hx hu hur h5r hcell
      go_wp2_with (first
      | (
        go_at_call 70
        refine (clone70_ok (r, 1, (n : Int)) l.length (claims l) wr HUR.out hokr (by omega)).mono ?_
        rintro e w1 ⟨v1, rfl, T1, hrow, hF1⟩
        obtain ⟨A1, c1, rfl, _, _⟩ := hrow.form
        have HV1 := Lib.hid hrow
        have HF1 := Lib.hid hF1
        have HR1 := Lib.hid (HRo.out.fr hF1 (fun x => x))
        clear hrow hF1)
      | (
        at_builtin
        refine append_list rfl (.tmp 17) (.tmp 20) 87 rfl (by rfl) (by rfl) (HR1.out.alloc _) (HF1.out.dom.alloc _) Try.underlying87 hi hz0 hz1 hz2 rfl (by decide) [.slice A1 l.length c1] rfl (news_at (Go.Ng.heap_alloc_at _ _)) (by simp [Value.oneCell']) (by decide) (by unfold maxLen; omega) (by omega) ?_
        intro g2 cap2 w2 T2 hrow hfr
        have HROW := Lib.hid hrow
        have HF2 := Lib.hid ((Fr.alloc HF1.out.dom (.cells #[.slice A1 l.length c1] 34)).trans hfr)
        clear hrow hfr))
      go_roundw
      case rel =>
        refine ⟨n + 1, by omega, by go_num, T2, vs ++ [.slice A1 l.length c1], HROW, Lib.hid (fun i l' hil hl' => ?_), Lib.hid ((HFr.out.trans (HF1.out.mono (fun _ h => h.elim))).trans (HF2.out.mono (fun t h => by rw [h])))⟩
        have hvl : vs.length = n := by have := HRo.out.len; omega
        by_cases e : i < n
        · obtain ⟨u, hu, hr'⟩ := HIn.out i l' e hl'
          exact ⟨u, by rw [List.getElem?_append_left (by omega)]; exact hu, (hr'.fr HF1.out (fun x => x)).fr HF2.out (by simp)⟩
        · have : i = n := by omega
          subst this
          rw [HX.out] at hl'
          injection hl' with hl'
          subst hl'
          exact ⟨.slice A1 l.length c1, by rw [List.getElem?_append_right (by omega), hvl]; simp, HV1.out.fr HF2.out (by simp)⟩
      case measure => simp [intOf]; omega
    · have hnn : n = N.claims.length := by omega
      subst hnn
      go_wp2_with fail
      go_ret
      exact ⟨_, vs, rfl, Tr, HRo.out, fun i l hl => by obtain ⟨u, h1, h2⟩ := HIn.out i l (List.getElem?_eq_some_iff.1 hl).1 hl; exact ⟨u, h1, h2⟩, HFr.out⟩
theorem p_proposals2 (r : Nat) (L : LiveP tag B w p g k) (hr : B + 32 < r) (hk : k ≤ 150) :
    Calls Try.prog 48 #[.pointer (some ⟨p, 0, none⟩)] w fun e w' => ∃ v vs, e = .returned v ∧ ∃ tag' : Nat → Tag, Row tag' (r, 0, 0) 34 1 w' v g.np vs ∧ (∀ i : Nat, i < g.np → ∃ u, vs[i]? = some u ∧ Row tag' (r, 1, (i : Int)) 69 2 w' u (g.props i).claims.length (claims (g.props i).claims)) ∧ Fr (fun t => t.1 = r) tag tag' w w' := by
  obtain ⟨N, rfl, h⟩ := L.net
  have hp := h.abs.p32
  have hnp := h.np
  refine (nproposals2_ok r h.rep h.ok (by rw [h.abs.plen]; omega) (by omega) (by rw [h.abs.clen]; omega) (fun i l hl => ?_)).mono ?_
  · have hi : i < g.np := by rw [← h.abs.clen]; exact (List.getElem?_eq_some_iff.1 hl).1
    rw [h.abs.claims i hi] at hl
    injection hl with hl
    have := h.good.inv.len i
    rw [← hl]; omega
  · rintro e w' ⟨v, vs, he, T, h1, h2, h3⟩
    rw [h.abs.clen] at h1
    exact ⟨v, vs, he, T, h1, fun i hi => h2 i _ (h.abs.claims i hi), h3⟩
end
end Go.Proofs.Ytclkokkppgchfaa

/- Where a claim, and where a message, stands in a list. -/
namespace Go.Proofs.Ytclkokkppgchfaa
open Go.RowKit Go.Ng Go.Proofs.YtclkokkppgchfaaW.PrintLast
set_option linter.unusedSimpArgs false
set_option linter.unusedVariables false
set_option maxRecDepth 100000 in
set_option maxHeartbeats 1600000 in
theorem indexClaim_ok {tag : Nat → Tag} {v : Value} {w : World} (l : List Clm) (a b : Int) (hr : Rd 2 w v l.length (claims l)) (hok : TagOk tag w) (hl : l.length ≤ 1000000) :
    Calls Try.prog 103 #[v, .agg #[.int .i64 a, .int .i64 b]] w fun e w' => ∃ i : Int, e = .returned (.int .i64 i) ∧ ((0 ≤ i ∧ (⟨a, b⟩ : Clm) ∈ l) ∨ (i = -1 ∧ (⟨a, b⟩ : Clm) ∉ l)) ∧ Fr (fun _ => False) tag tag w w' := by
  obtain ⟨A, cap, rfl, h1, h2⟩ := hr.slice
  unfold maxLen at h2
  have HR := Lib.hid hr
  clear hr
  have hFa : Fr (fun _ => False) tag tag w (w.alloc (.cells #[.int .i64 a, .int .i64 b] 69)) := Fr.alloc hok _
  have HFa := Lib.hid hFa
  clear hFa
  go_enter Try.func103, Try.ntmps103
  go_wp2_with fail
  go_loopw [8] (fun i wr => ∃ n : Nat, n ≤ l.length ∧ i = .int .i64 n ∧ Hid (∀ i < n, ∀ x, l[i]? = some x → x ≠ ⟨a, b⟩) ∧ Hid (Fr (fun _ => False) tag tag (w.alloc (.cells #[.int .i64 a, .int .i64 b] 69)) wr)) (fun i _ => l.length - (intOf i).toNat)
  case atStart => exact ⟨0, Nat.zero_le _, rfl, Lib.hid (fun i h => by omega), Lib.hid (Fr.refl HFa.out.dom)⟩
  case round =>
    obtain ⟨n, hn, rfl, HNO, HFr⟩ := hrel
    by_cases hlt : n < l.length
    · obtain ⟨⟨xi, xv⟩, hx⟩ : ∃ c, l[n]? = some c := ⟨_, List.getElem?_eq_getElem hlt⟩
      obtain ⟨ab, aoff, acap', he, _, _, hac⟩ := Rd.elem (enc := Clm.cells) HR.out (fun _ => rfl) (by decide) hx
      injection he with he _ he2
      subst he he2
      have a0 : wr.cell? ⟨ab, aoff + n * 2, none⟩ = some (.int .i64 xi) := HFr.out.cellF (HFa.out.cellF (hac 0 _ rfl))
      have a1 : wr.cell? ⟨ab, aoff + n * 2 + 1, none⟩ = some (.int .i64 xv) := HFr.out.cellF (HFa.out.cellF (hac 1 _ rfl))
      have b0 : wr.cell? ⟨w.heap.size, 0, none⟩ = some (.int .i64 a) := HFr.out.cellF (by go_simp)
      have b1 : wr.cell? ⟨w.heap.size, 1, none⟩ = some (.int .i64 b) := HFr.out.cellF (by go_simp)
      have i1 : (0 : Int) ≤ (n : Int) := by omega
      have i2 : (n : Int) < (l.length : Int) := by omega
      have hokr := HFr.out.dom
      have HX := Lib.hid hx
      clear hac hx
      by_cases e0 : a = xi
      · by_cases e1 : b = xv
        · subst e0 e1
          go_wp2_with fail
          go_quiet (fail)
          go_wp2_with fail
          go_ret
          exact ⟨n, rfl, .inl ⟨by omega, List.mem_of_getElem? HX.out⟩, HFa.out.trans (HFr.out.trans ((Fr.refl hokr).dN _))⟩
        · have q0 : (a == xi) = true := by simpa using e0
          have q1 : (b == xv) = false := by simpa using e1
          have HE := Lib.hid e1
          clear e0 e1
          go_wp2_with fail
          go_quiet (fail)
          go_wp2_with fail
          go_roundw
          case rel => exact ⟨n + 1, by omega, by go_num, Lib.hid (fun i hi x hx e => by
            rcases Nat.lt_succ_iff_lt_or_eq.1 hi with h | h
            · exact HNO.out i h x hx e
            · subst h; rw [HX.out] at hx; injection hx with hx; rw [← hx] at e; injection e with e1 e2; exact HE.out e2.symm), Lib.hid (HFr.out.trans ((Fr.refl hokr).dN _))⟩
          case measure => simp [intOf]; omega
      · have q0 : (a == xi) = false := by simpa using e0
        have HE := Lib.hid e0
        clear e0
        go_wp2_with fail
        go_quiet (fail)
        go_wp2_with fail
        go_roundw
        case rel => exact ⟨n + 1, by omega, by go_num, Lib.hid (fun i hi x hx e => by
          rcases Nat.lt_succ_iff_lt_or_eq.1 hi with h | h
          · exact HNO.out i h x hx e
          · subst h; rw [HX.out] at hx; injection hx with hx; rw [← hx] at e; injection e with e1 e2; exact HE.out e1.symm), Lib.hid (HFr.out.trans ((Fr.refl hokr).dN _))⟩
        case measure => simp [intOf]; omega
    · have hnn : n = l.length := by omega
      subst hnn
      go_wp2_with fail
      go_ret
      refine ⟨-1, rfl, .inr ⟨rfl, fun h => ?_⟩, HFa.out.trans HFr.out⟩
      obtain ⟨i, hi⟩ := List.getElem?_of_mem h
      exact HNO.out i (List.getElem?_eq_some_iff.1 hi).1 _ hi rfl
set_option maxRecDepth 100000 in
set_option maxHeartbeats 1600000 in
theorem hasClaim_ok {tag : Nat → Tag} {v : Value} {w : World} (l : List Clm) (a b : Int) (hr : Rd 2 w v l.length (claims l)) (hok : TagOk tag w) (hl : l.length ≤ 1000000) :
    Calls Try.prog 59 #[v, .agg #[.int .i64 a, .int .i64 b]] w fun e w' => e = .returned (.bool (decide ((⟨a, b⟩ : Clm) ∈ l))) ∧ Fr (fun _ => False) tag tag w w' := by
  obtain ⟨A, cap, rfl, h1, h2⟩ := hr.slice
  have HR := Lib.hid hr
  clear hr
  have hFa : Fr (fun _ => False) tag tag w (w.alloc (.cells #[.int .i64 a, .int .i64 b] 69)) := Fr.alloc hok _
  have HFa := Lib.hid hFa
  clear hFa
  go_enter Try.func59, Try.ntmps59
  go_wp2_with (
    go_at_call 103
    refine (indexClaim_ok l a b (HR.out.frF HFa.out) HFa.out.dom hl).mono ?_
    rintro e w1 ⟨i, rfl, hi, hF1⟩
    have HI : Hid (decide (0 ≤ i) = decide ((⟨a, b⟩ : Clm) ∈ l)) := Lib.hid (by
      rcases hi with ⟨h1, h2⟩ | ⟨h1, h2⟩
      · rw [decide_eq_true h1, decide_eq_true h2]
      · rw [decide_eq_false (by omega), decide_eq_false h2])
    have HF1 := Lib.hid hF1
    clear hi hF1)
  go_ret
  exact ⟨by rw [← HI.out]; rfl, HFa.out.trans HF1.out⟩
set_option maxRecDepth 100000 in
set_option maxHeartbeats 3200000 in
theorem indexPost_ok {tag : Nat → Tag} {v : Value} {w : World} (l : List Post) (c : Post) (hr : Rd 6 w v l.length (posts l)) (hok : TagOk tag w) (hl : l.length ≤ 1000000) (hc : c ∈ l) :
    Calls Try.prog 104 #[v, .agg #[.int .i64 c.kind, .int .i64 c.src, .int .i64 c.dst, .int .i64 c.prop, .int .i64 c.item, .int .i64 c.version]] w fun e w' => ∃ i : Nat, e = .returned (.int .i64 i) ∧ l[i]? = some c ∧ Fr (fun _ => False) tag tag w w' := by
  obtain ⟨A, cap, rfl, h1, h2⟩ := hr.slice
  unfold maxLen at h2
  have HR := Lib.hid hr
  have HC := Lib.hid hc
  clear hr hc
  obtain ⟨a0, a1, a2, a3, a4, a5⟩ := c
  have hFa : Fr (fun _ => False) tag tag w (w.alloc (.cells #[.int .i64 a0, .int .i64 a1, .int .i64 a2, .int .i64 a3, .int .i64 a4, .int .i64 a5] 49)) := Fr.alloc hok _
  have HFa := Lib.hid hFa
  clear hFa
  go_enter Try.func104, Try.ntmps104
  go_wp2_with fail
  go_loopw [8] (fun i wr => ∃ n : Nat, n ≤ l.length ∧ i = .int .i64 n ∧ Hid (∀ i < n, ∀ x, l[i]? = some x → x ≠ ⟨a0, a1, a2, a3, a4, a5⟩) ∧ Hid (Fr (fun _ => False) tag tag (w.alloc (.cells #[.int .i64 a0, .int .i64 a1, .int .i64 a2, .int .i64 a3, .int .i64 a4, .int .i64 a5] 49)) wr)) (fun i _ => l.length - (intOf i).toNat)
  case atStart => exact ⟨0, Nat.zero_le _, rfl, Lib.hid (fun i h => by omega), Lib.hid (Fr.refl HFa.out.dom)⟩
  case round =>
    obtain ⟨n, hn, rfl, HNO, HFr⟩ := hrel
    by_cases hlt : n < l.length
    · obtain ⟨⟨x0, x1, x2, x3, x4, x5⟩, hx⟩ : ∃ c, l[n]? = some c := ⟨_, List.getElem?_eq_getElem hlt⟩
      obtain ⟨ab, aoff, acap', he, _, _, hac⟩ := Rd.elem (enc := Post.cells) HR.out (fun _ => rfl) (by decide) hx
      injection he with he _ he2
      subst he he2
      have c0 : wr.cell? ⟨ab, aoff + n * 6, none⟩ = some (.int .i64 x0) := HFr.out.cellF (HFa.out.cellF (hac 0 _ rfl))
      have c1 : wr.cell? ⟨ab, aoff + n * 6 + 1, none⟩ = some (.int .i64 x1) := HFr.out.cellF (HFa.out.cellF (hac 1 _ rfl))
      have c2 : wr.cell? ⟨ab, aoff + n * 6 + 2, none⟩ = some (.int .i64 x2) := HFr.out.cellF (HFa.out.cellF (hac 2 _ rfl))
      have c3 : wr.cell? ⟨ab, aoff + n * 6 + 3, none⟩ = some (.int .i64 x3) := HFr.out.cellF (HFa.out.cellF (hac 3 _ rfl))
      have c4 : wr.cell? ⟨ab, aoff + n * 6 + 4, none⟩ = some (.int .i64 x4) := HFr.out.cellF (HFa.out.cellF (hac 4 _ rfl))
      have c5 : wr.cell? ⟨ab, aoff + n * 6 + 5, none⟩ = some (.int .i64 x5) := HFr.out.cellF (HFa.out.cellF (hac 5 _ rfl))
      have b0 : wr.cell? ⟨w.heap.size, 0, none⟩ = some (.int .i64 a0) := HFr.out.cellF (by go_simp)
      have b1 : wr.cell? ⟨w.heap.size, 1, none⟩ = some (.int .i64 a1) := HFr.out.cellF (by go_simp)
      have b2 : wr.cell? ⟨w.heap.size, 2, none⟩ = some (.int .i64 a2) := HFr.out.cellF (by go_simp)
      have b3 : wr.cell? ⟨w.heap.size, 3, none⟩ = some (.int .i64 a3) := HFr.out.cellF (by go_simp)
      have b4 : wr.cell? ⟨w.heap.size, 4, none⟩ = some (.int .i64 a4) := HFr.out.cellF (by go_simp)
      have b5 : wr.cell? ⟨w.heap.size, 5, none⟩ = some (.int .i64 a5) := HFr.out.cellF (by go_simp)
      have i1 : (0 : Int) ≤ (n : Int) := by omega
      have i2 : (n : Int) < (l.length : Int) := by omega
      have hokr := HFr.out.dom
      have HX := Lib.hid hx
      clear hac hx
      by_cases e : a0 = x0 ∧ a1 = x1 ∧ a2 = x2 ∧ a3 = x3 ∧ a4 = x4 ∧ a5 = x5
      · obtain ⟨e0, e1, e2, e3, e4, e5⟩ := e
        subst e0 e1 e2 e3 e4 e5
        go_wp2_with fail
        go_quiet (fail)
        go_wp2_with fail
        go_ret
        exact ⟨n, rfl, HX.out, HFa.out.trans (HFr.out.trans ((Fr.refl hokr).dN _))⟩
      · have q : (a0 == x0) = false ∨ ((a0 == x0) = true ∧ (a1 == x1) = false) ∨ ((a0 == x0) = true ∧ (a1 == x1) = true ∧ (a2 == x2) = false) ∨ ((a0 == x0) = true ∧ (a1 == x1) = true ∧ (a2 == x2) = true ∧ (a3 == x3) = false) ∨ ((a0 == x0) = true ∧ (a1 == x1) = true ∧ (a2 == x2) = true ∧ (a3 == x3) = true ∧ (a4 == x4) = false) ∨ ((a0 == x0) = true ∧ (a1 == x1) = true ∧ (a2 == x2) = true ∧ (a3 == x3) = true ∧ (a4 == x4) = true ∧ (a5 == x5) = false) := by
          simp only [beq_iff_eq, beq_eq_false_iff_ne]
          by_cases e0 : a0 = x0 <;> by_cases e1 : a1 = x1 <;> by_cases e2 : a2 = x2 <;> by_cases e3 : a3 = x3 <;> by_cases e4 : a4 = x4 <;> simp_all
        have HE := Lib.hid e
        clear e
        rcases q with q0 | ⟨q0, q1⟩ | ⟨q0, q1, q2⟩ | ⟨q0, q1, q2, q3⟩ | ⟨q0, q1, q2, q3, q4⟩ | ⟨q0, q1, q2, q3, q4, q5⟩
        all_goals
          go_wp2_with fail
          go_quiet (fail)
          go_wp2_with fail
          go_roundw
          case rel => exact ⟨n + 1, by omega, by go_num, Lib.hid (fun i hi x hx e => by
            rcases Nat.lt_succ_iff_lt_or_eq.1 hi with h | h
            · exact HNO.out i h x hx e
            · subst h; rw [HX.out] at hx; injection hx with hx; rw [← hx] at e; injection e with e0 e1 e2 e3 e4 e5; exact HE.out ⟨e0.symm, e1.symm, e2.symm, e3.symm, e4.symm, e5.symm⟩), Lib.hid (HFr.out.trans ((Fr.refl hokr).dN _))⟩
          case measure => simp [intOf]; omega
    · have hnn : n = l.length := by omega
      subst hnn
      obtain ⟨i, hi⟩ := List.getElem?_of_mem HC.out
      exact absurd rfl (HNO.out i (List.getElem?_eq_some_iff.1 hi).1 _ hi)
end Go.Proofs.Ytclkokkppgchfaa

/- NegoSerial: the walk. -/
namespace Go.Proofs.Ytclkokkppgchfaa
open Go.RowKit Go.Ng Go.Proofs.YtclkokkppgchfaaW.PrintLast
set_option linter.unusedSimpArgs false
set_option linter.unusedVariables false
set_option pp.deepTerms true
set_option pp.maxSteps 1000000
set_option maxRecDepth 100000 in
set_option maxHeartbeats 6400000 in
theorem negoSerial_ok {tag : Nat → Tag} {w : World} {v vc : Value} {places : Int} {items choices : List Int} {l : List OpM} (h : WorldRd tag w v places items l) (hc : Rd 1 w vc choices.length (ints choices)) (hce : Ext tag w vc) (hok : TagOk tag w) :
    Calls Try.prog 12 #[v, vc] w fun e w' => e = .returned (.bool true) ∧ ∃ tag', Fr (fun t => 1 ≤ t.1) tag tag' w w' := by
  have HS := fun {tag : Nat → Tag} {w : World} => @sane_ok tag w 1
  obtain ⟨vi, vl, rfl, hi, hie, hl⟩ := h.form
  obtain ⟨IA, icap, rfl, q1, q2⟩ := hi.slice
  obtain ⟨LA, lcap, rfl, q3, q4⟩ := hl.slice
  obtain ⟨CA, ccap, rfl, q5, q6⟩ := hc.slice
  unfold maxLen at q2 q6
  have hFa : Fr (fun _ => False) tag tag w (w.alloc (.cells #[.int .i64 places, .slice IA items.length icap, .slice LA l.length lcap] 75)) := Fr.alloc hok _
  have HFa := Lib.hid hFa
  have HW := Lib.hid (h.fr hFa (fun t h => h.elim))
  have HCR := Lib.hid (hc.frF hFa)
  have HCE := Lib.hid (hce.fr hFa)
  have hnew : (tag w.heap.size).1 = 0 := hok.new
  clear h hi hie hl hFa hc hce
  by_cases hb : fewB items.length l = false ∨ validB places items = false
  · have HB := Lib.hid hb
    clear hb
    go_enter Try.func12, Try.ntmps12
    go_wp2_with (first
    | (
      go_at_call 16
      refine (HS HFa.out.dom (by omega)).mono ?_
      rintro e w1 ⟨rfl, T1, hF1, hok1⟩
      have k0 : w1.cell? ⟨w.heap.size, 0, none⟩ = some (.int .i64 places) := hF1.cell (by go_simp) (by simp only [hnew]; omega)
      have k1 : w1.cell? ⟨w.heap.size, 1, none⟩ = some (.slice IA items.length icap) := hF1.cell (by go_simp) (by simp only [hnew]; omega)
      have k2 : w1.cell? ⟨w.heap.size, 2, none⟩ = some (.slice LA l.length lcap) := hF1.cell (by go_simp) (by simp only [hnew]; omega)
      have HT1 := Lib.hid (hF1.same w.heap.size (by simp))
      have HW1 := Lib.hid (HW.out.fr hF1 (fun t h => by omega))
      have HCR1 := Lib.hid (HCR.out.ext HCE.out hF1 (fun t h => by omega))
      have HCE1 := Lib.hid (HCE.out.fr hF1)
      have HF1 := Lib.hid ((HFa.out.mono (S' := fun t => 1 ≤ t.1) (fun _ h => h.elim)).trans (hF1.mono (fun t h => by omega)))
      clear hF1)
    | (
      go_at_call 39
      refine (begun_no HW1.out HF1.out.dom HB.out).mono ?_
      rintro e w2 ⟨rfl, hF2⟩
      have HF2 := Lib.hid (HF1.out.trans (hF2.mono (fun _ h => h.elim)))
      clear hF2))
    go_ret
    exact ⟨rfl, T1, HF2.out⟩
  · simp only [not_or, Bool.not_eq_false] at hb
    obtain ⟨hb1, hb2⟩ := hb
    have HB1 := Lib.hid hb1
    have HB2 := Lib.hid hb2
    have hn0 : (runG (beginG places.toNat items) l).n = items.length := by rw [runG_same]; rfl
    clear hb1 hb2
    by_cases hmany : 2000 < choices.length
    · have i8 : decide ((2000 : Int) < (choices.length : Int)) = true := decide_eq_true (by omega)
      clear hmany
      go_enter Try.func12, Try.ntmps12
      go_wp2_with (first
      | (
      go_at_call 16
      refine (HS HFa.out.dom (by omega)).mono ?_
      rintro e w1 ⟨rfl, T1, hF1, hok1⟩
      have k0 : w1.cell? ⟨w.heap.size, 0, none⟩ = some (.int .i64 places) := hF1.cell (by go_simp) (by simp only [hnew]; omega)
      have k1 : w1.cell? ⟨w.heap.size, 1, none⟩ = some (.slice IA items.length icap) := hF1.cell (by go_simp) (by simp only [hnew]; omega)
      have k2 : w1.cell? ⟨w.heap.size, 2, none⟩ = some (.slice LA l.length lcap) := hF1.cell (by go_simp) (by simp only [hnew]; omega)
      have HT1 := Lib.hid (hF1.same w.heap.size (by simp))
      have HW1 := Lib.hid (HW.out.fr hF1 (fun t h => by omega))
      have HCR1 := Lib.hid (HCR.out.ext HCE.out hF1 (fun t h => by omega))
      have HCE1 := Lib.hid (HCE.out.fr hF1)
      have HF1 := Lib.hid ((HFa.out.mono (S' := fun t => 1 ≤ t.1) (fun _ h => h.elim)).trans (hF1.mono (fun t h => by omega)))
      clear hF1)
      | (
      go_at_call 39
      refine (p_begun 100 HW1.out HF1.out.dom (by omega) HB1.out HB2.out).mono ?_
      rintro e w2 ⟨p, rfl, T2, hL2, hF2⟩
      have m1 : w2.cell? ⟨w.heap.size, 1, none⟩ = some (.slice IA items.length icap) := hF2.cell k1 (by simp only [HT1.out, hnew]; omega)
      have HT2 := Lib.hid ((hF2.same w.heap.size (World.block_lt_of_cell? w1 _ k0)).trans HT1.out)
      have HL2 := Lib.hid hL2
      have HCR2 := Lib.hid (HCR1.out.ext HCE1.out hF2 (fun t h => by omega))
      have HCE2 := Lib.hid (HCE1.out.fr hF2)
      have HF2 := Lib.hid (HF1.out.trans (hF2.mono (fun t h => by omega)))
      clear hF2 hL2 k0 k1 k2))
      go_ret
      exact ⟨rfl, T2, HF2.out⟩
    · have i8 : decide ((2000 : Int) < (choices.length : Int)) = false := decide_eq_false (by omega)
      have hc2000 : choices.length ≤ 2000 := by omega
      clear hmany
      have HN0 := Lib.hid hn0
      clear hn0
      go_enter Try.func12, Try.ntmps12
      go_upto_region 8 with (first
      | (
      go_at_call 16
      refine (HS HFa.out.dom (by omega)).mono ?_
      rintro e w1 ⟨rfl, T1, hF1, hok1⟩
      have k0 : w1.cell? ⟨w.heap.size, 0, none⟩ = some (.int .i64 places) := hF1.cell (by go_simp) (by simp only [hnew]; omega)
      have k1 : w1.cell? ⟨w.heap.size, 1, none⟩ = some (.slice IA items.length icap) := hF1.cell (by go_simp) (by simp only [hnew]; omega)
      have k2 : w1.cell? ⟨w.heap.size, 2, none⟩ = some (.slice LA l.length lcap) := hF1.cell (by go_simp) (by simp only [hnew]; omega)
      have HT1 := Lib.hid (hF1.same w.heap.size (by simp))
      have HW1 := Lib.hid (HW.out.fr hF1 (fun t h => by omega))
      have HCR1 := Lib.hid (HCR.out.ext HCE.out hF1 (fun t h => by omega))
      have HCE1 := Lib.hid (HCE.out.fr hF1)
      have HF1 := Lib.hid ((HFa.out.mono (S' := fun t => 1 ≤ t.1) (fun _ h => h.elim)).trans (hF1.mono (fun t h => by omega)))
      clear hF1)
      | (
      go_at_call 39
      refine (p_begun 100 HW1.out HF1.out.dom (by omega) HB1.out HB2.out).mono ?_
      rintro e w2 ⟨p, rfl, T2, hL2, hF2⟩
      have m1 : w2.cell? ⟨w.heap.size, 1, none⟩ = some (.slice IA items.length icap) := hF2.cell k1 (by simp only [HT1.out, hnew]; omega)
      have HT2 := Lib.hid ((hF2.same w.heap.size (World.block_lt_of_cell? w1 _ k0)).trans HT1.out)
      have HL2 := Lib.hid hL2
      have HCR2 := Lib.hid (HCR1.out.ext HCE1.out hF2 (fun t h => by omega))
      have HCE2 := Lib.hid (HCE1.out.fr hF2)
      have HF2 := Lib.hid (HF1.out.trans (hF2.mono (fun t h => by omega)))
      clear hF2 hL2 k0 k1 k2)
      | (
        go_at_call 37
        refine (calm_ok choices HL2.out (by decide) HCR2.out HCE2.out (by omega)).mono ?_
        rintro e w3 ⟨rfl, m, T3, hfl, hm, hL3, hF3⟩
        have m3 : w3.cell? ⟨w.heap.size, 1, none⟩ = some (.slice IA items.length icap) := hF3.cell m1 (by simp only [HT2.out, hnew]; omega)
        have HL3 := Lib.hid hL3
        have HFL := Lib.hid hfl
        have HF3 := Lib.hid (HF2.out.trans (hF3.mono (fun t h => by omega)))
        have HT3 := Lib.hid ((hF3.same w.heap.size (World.block_lt_of_cell? w2 _ m1)).trans HT2.out)
        clear hL3 hfl hF3 m1))
      have hgn : (calmN choices (runG (beginG places.toNat items) l) m).1.n = items.length := by rw [(calmN_n _ _ _).1]; exact HN0.out
      generalize (calmN choices (runG (beginG places.toNat items) l) m).1 = g at HL3 HFL hgn
      have HN := Lib.hid hgn
      have HST := Lib.hid (still_of HFL.out)
      clear hm
      obtain ⟨j0, hj, hy0, hy1, hy2⟩ := info_parts Try.info3
      have hn64 := HL3.out.n64
      have hi64 : items.length ≤ 64 := by omega
      have hmk : ∀ W, (Instr.makeSlice 22 (.int .i64 (items.length : Int)) (.int .i64 (items.length : Int))).run Try.prog W = .ok (.slice (some ⟨W.heap.size, 0, none⟩) items.length items.length) (W.alloc (.cells (zs items.length) 3)) := by
        intro W
        have := run_makeSlice (P := Try.prog) (w := W) 22 3 j0 (.int .i64 0) Try.underlying22 hj hy0 .i64 .i64 (items.length : Int) (items.length : Int) (by omega) (Int.le_refl _) (by rw [hy1]; simp; omega) (by rw [hy2]; omega) (by omega)
        rw [hy1, Nat.mul_one] at this
        exact this
      clear hgn hj hy0 hy1 hy2
      go_upto_region 9 with fail
      clear hmk
      obtain ⟨w4, hw4⟩ : ∃ w4, w4 = w3.alloc (.cells (zs items.length) 3) := ⟨_, rfl⟩
      obtain ⟨b4, hb4⟩ : ∃ b4, b4 = w3.heap.size := ⟨_, rfl⟩
      rw [← hw4, ← hb4]
      obtain ⟨T4, hT4⟩ : ∃ T4, T4 = give T3 b4 (500, 0, 0) := ⟨_, rfl⟩
      have hs : Fr (fun _ => False) T3 T4 w3 w4 := by rw [hw4, hT4, hb4]; exact Fr.give_alloc HL3.out.ok _ _
      have hrow4 : Row T4 (500, 0, 0) 3 1 w4 (.slice (some ⟨b4, 0, none⟩) items.length items.length) items.length (ints (List.replicate items.length 0)) := by
        rw [← zs_list]
        exact .inl ⟨by rw [hw4, hb4]; exact World.ownsRow_lit (base := 0) _ _ items.length (Nat.zero_le _) (by unfold maxLen; omega) (zs_size _), fun b hb => by simp [Value.ownBlock] at hb; rw [← hb, hT4]; exact give_at _ _ _⟩
      rw [show List.replicate items.length (0 : Int) = atL g [] [] from by rw [atL_nil, HN.out]] at hrow4
      have HA4 := Lib.hid hrow4
      have HL4 := Lib.hid (HL3.out.frF hs)
      have m4 : w4.cell? ⟨w.heap.size, 1, none⟩ = some (.slice IA items.length icap) := hs.cellF m3
      have HT4 := Lib.hid ((hs.same w.heap.size (World.block_lt_of_cell? w3 _ m3)).trans HT3.out)
      have HF4 := Lib.hid (HF3.out.trans (hs.mono (fun _ h => h.elim)))
      clear hw4 hb4 hT4 hs hrow4 m3
      go_wp2_with (first
      | (
        go_at_call 48
        refine (p_proposals2 400 HL4.out (by omega) (by decide)).mono ?_
        rintro e w5 ⟨v5, vs, rfl, T5, hrow, hcl, hF5⟩
        obtain ⟨A5, c5, rfl, z1, z2⟩ := hrow.form
        unfold maxLen at z2
        have m5 : w5.cell? ⟨w.heap.size, 1, none⟩ = some (.slice IA items.length icap) := hF5.cell m4 (by simp only [HT4.out, hnew]; omega)
        have HT5 := Lib.hid ((hF5.same w.heap.size (World.block_lt_of_cell? w4 _ m4)).trans HT4.out)
        have HL5 := Lib.hid (HL4.out.fr hF5 (fun t h => by omega))
        have HA5 := Lib.hid (HA4.out.fr hF5 (by simp))
        have HF5 := Lib.hid (HF4.out.trans (hF5.mono (fun t h => by omega)))
        have HR5 := Lib.hid hrow
        have HC5 := Lib.hid hcl
        clear hrow hcl hF5 m4)
      | (
        go_at_call 56
        refine (p_decided (300, 0, 0) HL5.out (by decide)).mono ?_
        rintro e w6 ⟨v6, rfl, T6, hrow, hF6⟩
        obtain ⟨A6, c6, rfl, y1, y2⟩ := hrow.form
        unfold maxLen at y2
        have m6 : w6.cell? ⟨w.heap.size, 1, none⟩ = some (.slice IA items.length icap) := hF6.cellF m5
        have HT6 := Lib.hid ((hF6.same w.heap.size (World.block_lt_of_cell? w5 _ m5)).trans HT5.out)
        have HL6 := Lib.hid (HL5.out.frF hF6)
        have HA6 := Lib.hid (HA5.out.fr hF6 (by simp))
        have HF6 := Lib.hid (HF5.out.trans (hF6.mono (fun _ h => h.elim)))
        have HR6 := Lib.hid (HR5.out.fr hF6 (fun x => x))
        have HF56 := Lib.hid hF6
        have HD6 := Lib.hid hrow
        clear hrow hF6 m5))
      have hnp : g.np ≤ 80 := HL6.out.np
      have hdl := dec_len HL6.out.good
      have HCC : Hid (∀ i : Nat, i < g.np → ∃ u, vs[i]? = some u ∧ Row T6 (400, 1, (i : Int)) 69 2 w6 u (g.props i).claims.length (claims (g.props i).claims)) := Lib.hid (fun i hi => by obtain ⟨u, h1, h2⟩ := HC5.out i hi; exact ⟨u, h1, h2.fr HF56.out (fun x => x)⟩)
      clear HC5
      go_loopw [46] (fun i wr => ∃ m : Nat, m ≤ g.dec.length ∧ i = .int .i64 m ∧ ∃ Tq : Nat → Tag, Hid (Row Tq (500, 0, 0) 3 1 wr (.slice (some ⟨b4, 0, none⟩) items.length items.length) items.length (ints (atL g (g.dec.take m) []))) ∧ Hid (Fr (fun t => t = (500, 0, 0)) T6 Tq w6 wr)) (fun i _ => g.dec.length - (intOf i).toNat)
      case atStart => exact ⟨0, Nat.zero_le _, rfl, T6, Lib.hid (by rw [List.take_zero]; exact HA6.out), Lib.hid (Fr.refl HF6.out.dom)⟩
      case round =>
        obtain ⟨m, hm, rfl, Tq, HA, HFq⟩ := hrel
        by_cases hmt : m < g.dec.length
        · obtain ⟨x, hx⟩ : ∃ x, g.dec[m]? = some x := ⟨_, List.getElem?_eq_getElem hmt⟩
          obtain ⟨hx0, hx1, _⟩ := moment HL6.out.good.inv (List.mem_of_getElem? hx)
          obtain ⟨xn, rfl⟩ : ∃ xn : Nat, x = xn := ⟨x.toNat, by omega⟩
          have hxn : xn < g.np := by omega
          obtain ⟨b7, rfl, _, _, hcell⟩ := (HD6.out.fr HFq.out (by simp)).cell rfl (j := m) (by simpa [ints] using hmt)
          have e0 : wr.cell? ⟨b7, m, none⟩ = some (.int .i64 xn) := by rw [hcell, ints, List.getElem?_map, hx]; rfl
          obtain ⟨u, hu, hru⟩ := HCC.out xn hxn
          have hcr := hru.fr HFq.out (by simp)
          have hcl64 := HL6.out.good.inv.len xn
          obtain ⟨b6, rfl, _, _, hcell6⟩ := (HR6.out.fr HFq.out (by simp)).cell rfl (j := xn) (List.getElem?_eq_some_iff.1 hu).1
          have e1 : wr.cell? ⟨b6, xn, none⟩ = some u := by rw [hcell6, hu]
          have hsplit : g.dec = g.dec.take m ++ (xn : Int) :: g.dec.drop (m + 1) := by
            have h1 := List.drop_eq_getElem_cons hmt
            have h2 := (List.getElem?_eq_some_iff.1 hx).2
            rw [h2] at h1
            rw [← h1, List.take_append_drop]
          have htk : g.dec.take (m + 1) = g.dec.take m ++ [(xn : Int)] := by
            rw [List.take_succ_eq_append_getElem hmt, (List.getElem?_eq_some_iff.1 hx).2]
          obtain ⟨cs, hcs⟩ : ∃ cs, cs = (g.props xn).claims := ⟨_, rfl⟩
          rw [← hcs] at hcr hcl64
          obtain ⟨UA, ucap, rfl, u1, u2⟩ := hcr.form
          unfold maxLen at u2
          have HCR := Lib.hid hcr
          have HCS := Lib.hid hcs
          have HSP := Lib.hid hsplit
          have HTK := Lib.hid htk
          have i5 : (0 : Int) ≤ (m : Int) := by omega
          have i6 : (m : Int) < (g.dec.length : Int) := by omega
          have i8' : (0 : Int) ≤ (xn : Int) := by omega
          have i9 : (xn : Int) < (g.np : Int) := by omega
          have j1 : decide ((xn : Int) < 0) = false := decide_eq_false (by omega)
          have j2 : decide ((g.np : Int) ≤ (xn : Int)) = false := decide_eq_false (by omega)
          have j3 : decide (g.np ≤ xn) = false := decide_eq_false (by omega)
          clear hx hx0 hx1 hcell hu hru hcr hcell6 hcs hsplit htk
          go_wp2_with fail
          go_loopw [63] (fun i wq => ∃ k : Nat, k ≤ cs.length ∧ i = .int .i64 k ∧ ∃ Tk : Nat → Tag, Hid (Row Tk (500, 0, 0) 3 1 wq (.slice (some ⟨b4, 0, none⟩) items.length items.length) items.length (ints (atL g (g.dec.take m) (cs.take k)))) ∧ Hid (Fr (fun t => t = (500, 0, 0)) Tq Tk wr wq)) (fun i _ => cs.length - (intOf i).toNat)
          case atStart => exact ⟨0, Nat.zero_le _, rfl, Tq, Lib.hid (by rw [List.take_zero]; exact HA.out), Lib.hid (Fr.refl HFq.out.dom)⟩
          case round =>
            obtain ⟨k, hk, rfl, Tk, HAk, HFk⟩ := hrel
            by_cases hkt : k < cs.length
            · obtain ⟨⟨ci, cver⟩, hcx⟩ : ∃ c, cs[k]? = some c := ⟨_, List.getElem?_eq_getElem hkt⟩
              have hcx' := hcx
              rw [HCS.out] at hcx'
              have hrng : (0 : Int) ≤ xn ∧ (xn : Int) < g.np ∧ 0 ≤ ci ∧ ci < g.n := claims_rng HL6.out.good (List.mem_of_getElem? hcx')
              obtain ⟨jn, rfl⟩ : ∃ jn : Nat, ci = jn := ⟨ci.toNat, by omega⟩
              have hJ : jn < g.n := by omega
              have hJ2 : jn < items.length := by rw [← HN.out]; exact hJ
              have hsv := serial_at HL6.out.good HST.out HSP.out hcx'
              have hss := serial_set HL6.out.good (g.dec.take m) hcx'
              have hbd := cnt_bd HL6.out.good (g.dec.take m) _ HSP.out ((g.props xn).claims.take k) jn hnp
              obtain ⟨cN, hcN⟩ : ∃ y, y = cntN g (g.dec.take m) ((g.props xn).claims.take k) jn := ⟨_, rfl⟩
              rw [← hcN] at hsv hss hbd
              subst hsv
              obtain ⟨b', hb', _, _, hcell⟩ := HAk.out.cell rfl (j := jn) (by simp [ints, atL_len]; exact hJ)
              injection hb' with hb'
              injection hb' with hb'
              subst hb'
              have a0 : wr.cell? ⟨b4, jn, none⟩ = some (.int .i64 cN) := by rw [hcell, ints, List.getElem?_map, atL_get _ _ _ hJ, HCS.out, ← hcN]; rfl
              have fz : wr.frozen? ⟨b4, jn, none⟩ = false := Row.free HAk.out hJ2
              obtain ⟨bc, rfl, _, hbl, hce⟩ := Row.elem (enc := Clm.cells) (HCR.out.fr HFk.out (by simp)) (fun _ => rfl) (by decide) hcx
              have f0 : wr.cell? ⟨bc, k * 2, none⟩ = some (.int .i64 jn) := hce 0 _ rfl
              have f1 : wr.cell? ⟨bc, k * 2 + 1, none⟩ = some (.int .i64 cN) := hce 1 _ rfl
              have HSS := Lib.hid hss
              have HJ := Lib.hid hJ2
              have i10 : (0 : Int) ≤ (k : Int) := by omega
              have i11 : (k : Int) < (cs.length : Int) := by omega
              have i12 : (0 : Int) ≤ (jn : Int) := by omega
              have i13 : (jn : Int) < (items.length : Int) := by omega
              have j5 : decide ((jn : Int) < 0) = false := decide_eq_false (by omega)
              have j6 : decide ((items.length : Int) ≤ (jn : Int)) = false := decide_eq_false (by omega)
              have j7 : decide (items.length ≤ jn) = false := decide_eq_false (by omega)
              have hokk := HFk.out.dom
              clear hcx hcx' hrng hce hcell hcN hss
              go_wp2_with fail
              go_quiet (fail)
              go_upto_region 20 with fail
              obtain ⟨w8, hw8⟩ : ∃ w8, w8 = (wr.alloc (.cells #[.int .i64 jn, .int .i64 cN] 69)).drewN nq := ⟨_, rfl⟩
              have hF8 : Fr (fun _ => False) Tk Tk wr w8 := by rw [hw8]; exact (Fr.alloc hokk _).dN _
              have n0 : w8.cell? ⟨wr.heap.size, 0, none⟩ = some (.int .i64 jn) := by rw [hw8]; go_simp
              rw [← hw8]
              have a8 : w8.cell? ⟨b4, jn, none⟩ = some (.int .i64 cN) := hF8.cellF a0
              have HA8 := Lib.hid (HAk.out.fr hF8 (fun x => x))
              have fz8 : w8.frozen? ⟨b4, jn, none⟩ = false := Row.free HA8.out HJ.out
              have HF8 := Lib.hid hF8
              clear hw8 hF8 fz a0
              go_wp2_with fail
              go_roundw
              case rel =>
                have htag : Tk b4 = (500, 0, 0) := by
                  obtain ⟨b', hb', h1, _, _⟩ := HA8.out.cell rfl (j := jn) (by simp only [ints, List.length_map, atL_len, HN.out]; exact HJ.out)
                  cases hb'
                  exact h1
                refine ⟨k + 1, by omega, by go_num, Tk, Lib.hid ?_, Lib.hid (HFk.out.trans ((HF8.out.mono (fun _ h => h.elim)).trans (Fr.setCell HF8.out.dom (a := ⟨b4, jn, none⟩) htag _)))⟩
                have := Row.set_cell HA8.out HJ.out (.int .i64 ((cN : Int) + 1))
                rw [HCS.out] at this ⊢
                rw [← HSS.out]
                simpa only [ints, List.map_set] using this
              case measure => simp [intOf]; omega
            · have hkk : k = cs.length := by omega
              subst hkk
              go_wp2_with fail
              go_roundw
              case rel => exact ⟨m + 1, by omega, by go_num, Tk, Lib.hid (by rw [HTK.out, ← serial_done, ← HCS.out]; have := HAk.out; rw [List.take_length] at this; exact this), Lib.hid (HFq.out.trans HFk.out)⟩
              case measure => simp [intOf]; omega
        · have hmm : m = g.dec.length := by omega
          subst hmm
          have m8 : wr.cell? ⟨w.heap.size, 1, none⟩ = some (.slice IA items.length icap) := HFq.out.cell m6 (by simp only [HT6.out]; intro h; rw [h] at hnew; simp at hnew)
          have HL8 := Lib.hid (HL6.out.fr HFq.out (fun t h => by subst h; right; decide))
          have HF8 := Lib.hid (HF6.out.trans (HFq.out.mono (fun t h => by subst h; decide)))
          obtain ⟨MM, hMM⟩ := tag_max Tq wr.heap.size
          have HA8 : Hid (Row Tq (500, 0, 0) 3 1 wr (.slice (some ⟨b4, 0, none⟩) items.length items.length) items.length (ints (versG g items.length))) := Lib.hid (by rw [show versG g items.length = versG g g.n from by rw [HN.out], ← serial_end HL6.out.good HST.out]; have := HA.out; rw [List.take_length] at this; exact this)
          have hPV := p_versions HL8.out (600, 0, MM) (fun b hb e => by have := hMM b hb; rw [e] at this; simp at this) (.inr (show 132 < 600 by decide)) (show 600 ≠ 0 by decide)
          rw [HN.out] at hPV
          have HPV := Lib.hid hPV
          clear hMM hPV
          go_wp2_with (first
          | (
            go_at_call 53
            refine HPV.out.mono ?_
            rintro e w9 ⟨v9, rfl, T9, hrow, hF9⟩
            obtain ⟨A9, c9, rfl, y3, y4⟩ := hrow.form
            unfold maxLen at y4
            have HV9 := Lib.hid hrow
            have HA9 := Lib.hid (HA8.out.fr hF9 (fun x => x))
            have HF9 := Lib.hid (HF8.out.trans (hF9.mono (fun _ h => h.elim)))
            clear hrow hF9)
          | (
            go_at_call 58
            refine (equalInts_ok (versG g items.length) (by rw [versG_len]; exact HA9.out.rd (ints_one _)) (by rw [versG_len]; exact HV9.out.rd (ints_one _)) HF9.out.dom (by rw [versG_len]; omega)).mono ?_
            rintro e w10 ⟨rfl, hF10⟩
            have HF10 := Lib.hid (HF9.out.trans (hF10.mono (fun _ h => h.elim)))
            clear hF10))
          go_ret
          exact ⟨rfl, T9, HF10.out⟩
end Go.Proofs.Ytclkokkppgchfaa

/- A list of numbers, handed over. -/
namespace Go.Proofs.Ytclkokkppgchfaa
open Go.ChangeShapes Go.WideShapes Go.ChangeAt Go.RowKit Go.Joins Go.Deep Go.Ng
set_option linter.unusedVariables false
section
variable {H : Type} {enc : TypeId × Value → H} {w : World} {base base0 : Nat} {spare : Nat → Bool} {held : Bool}
set_option maxRecDepth 100000 in
theorem open_ints_arg {v : Value} {d : DataW H} {p : List MemPlace} (hv : Value.okWide Try.prog w .any base0 22 v) (h : DataW.Trod enc Try.prog w base spare held 22 v d p) : ∃ l : List Int, Rd 1 w v l.length (ints l) ∧ Ext tag0 w v := by
  obtain ⟨a, len, cap, rfl⟩ := okWide_slice Try.underlying22 hv
  obtain ⟨n, hn⟩ := h
  refine open_intsRd hn (base0 := base0) ?_
  simpa only [Value.okWide, Try.underlying22] using hv
end
end Go.Proofs.Ytclkokkppgchfaa
