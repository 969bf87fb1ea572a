/- A part of the proof: texts of this session, joined. -/
import Derived.Test.YtclkokkppgchfaaPart10
/- NegoOne: the walk. -/
namespace Go.Proofs.Ytclkokkppgchfaa
open Go.RowKit Go.Ng Go.Proofs.YtclkokkppgchfaaW.PrintLast
set_option linter.unusedSimpArgs false
set_option linter.unusedVariables false
/-- The beginning of a row. -/
theorem row_prefix {tag : Nat → Tag} {t : Tag} {w : World} {A : Option Addr} {n cap : Nat} {l : List Int} (h : Row tag t 3 1 w (.slice A n cap) n (ints l)) {i : Nat} (hi : i ≤ n) : Rd 1 w (.slice A i cap) i (ints (l.take i)) := by
  have hlen : l.length = n := by have := h.len; simpa [ints] using this
  have hrd := h.rd (ints_one l)
  refine ⟨by simp [ints]; omega, ints_one _, ?_⟩
  rcases hrd.form with ⟨hv, hn⟩ | ⟨b, off, cap', hv, h1, h2, h3⟩
  · injection hv with a1 a2 a3
    subst a1 a3
    have : i = 0 := by omega
    subst this
    exact .inl ⟨rfl, rfl⟩
  · injection hv with a1 a2 a3
    subst a1 a3
    refine .inr ⟨b, off, cap, rfl, by omega, h2, fun j u hu => h3 j u ?_⟩
    have hj : j < i := by
      have := (List.getElem?_eq_some_iff.1 hu).1
      simp [ints] at this; omega
    rw [ints, List.getElem?_map, List.getElem?_take, if_pos hj] at hu
    rw [ints, List.getElem?_map]; exact hu
theorem nodup_take {l : List Int} (h : l.Nodup) {i : Nat} {x : Int} (hx : l[i]? = some x) : x ∉ l.take i := by
  intro hm
  obtain ⟨j, hj⟩ := List.getElem?_of_mem hm
  rw [List.getElem?_take] at hj
  split at hj
  · rename_i hji
    obtain ⟨h1, h2⟩ := List.getElem?_eq_some_iff.1 hx
    obtain ⟨h3, h4⟩ := List.getElem?_eq_some_iff.1 hj
    have := (List.pairwise_iff_getElem.1 h) j i h3 h1 hji
    exact this (h4.trans h2.symm)
  · cases hj
theorem runG_same (g : G) : ∀ l : List OpM, (runG g l).n = g.n := by
  intro l
  induction l generalizing g with
  | nil => rfl
  | cons o l ih =>
    show (runG (doG g o).1 l).n = g.n
    rw [ih]
    have hL : ∀ i : Int, (doL g i).1.n = g.n := by
      intro i; unfold doL; split
      · rfl
      · split
        · exact (takeG_same (g := g) _).2.2.1
        · rfl
    unfold doG
    split
    · unfold doP; repeat' (first | rfl | split)
    · split
      · unfold doD; repeat' (first | rfl | split)
      · split
        · exact hL _
        · split
          · unfold doB; repeat' (first | rfl | split)
          · rfl
set_option maxRecDepth 100000 in
set_option maxHeartbeats 6400000 in
theorem negoOne_ok {tag : Nat → Tag} {w : World} {v : Value} {places : Int} {items : List Int} {l : List OpM} (h : WorldRd tag w v places items l) (hok : TagOk tag w) :
    Calls Try.prog 9 #[v] w fun e w' => e = .returned (.bool true) ∧ ∃ tag', Fr (fun t => 1 ≤ t.1) tag tag' w w' := by
  have HS := fun {tag : Nat → Tag} {w : World} => @sane_ok tag w 1
  obtain ⟨vi, vl, rfl, hi, hie, hl⟩ := h.form
  obtain ⟨IA, icap, rfl, q1, q2⟩ := hi.slice
  obtain ⟨LA, lcap, rfl, q3, q4⟩ := hl.slice
  unfold maxLen at q2
  have hFa : Fr (fun _ => False) tag tag w (w.alloc (.cells #[.int .i64 places, .slice IA items.length icap, .slice LA l.length lcap] 75)) := Fr.alloc hok _
  have HFa := Lib.hid hFa
  have HW := Lib.hid (h.fr hFa (fun t h => h.elim))
  have hnew : (tag w.heap.size).1 = 0 := hok.new
  clear h hi hie hl hFa
  by_cases hb : fewB items.length l = false ∨ validB places items = false
  · have HB := Lib.hid hb
    clear hb
    go_enter Try.func9, Try.ntmps9
    go_wp2_with (first
    | (
      go_at_call 16
      refine (HS HFa.out.dom (by omega)).mono ?_
      rintro e w1 ⟨rfl, T1, hF1, hok1⟩
      have k0 : w1.cell? ⟨w.heap.size, 0, none⟩ = some (.int .i64 places) := hF1.cell (by go_simp) (by simp only [hnew]; omega)
      have k1 : w1.cell? ⟨w.heap.size, 1, none⟩ = some (.slice IA items.length icap) := hF1.cell (by go_simp) (by simp only [hnew]; omega)
      have k2 : w1.cell? ⟨w.heap.size, 2, none⟩ = some (.slice LA l.length lcap) := hF1.cell (by go_simp) (by simp only [hnew]; omega)
      have HW1 := Lib.hid (HW.out.fr hF1 (fun t h => by omega))
      have HF1 := Lib.hid ((HFa.out.mono (S' := fun t => 1 ≤ t.1) (fun _ h => h.elim)).trans (hF1.mono (fun t h => by omega)))
      clear hF1)
    | (
      go_at_call 39
      refine (begun_no HW1.out HF1.out.dom HB.out).mono ?_
      rintro e w2 ⟨rfl, hF2⟩
      have HF2 := Lib.hid (HF1.out.trans (hF2.mono (fun _ h => h.elim)))
      clear hF2))
    go_ret
    exact ⟨rfl, T1, HF2.out⟩
  · simp only [not_or, Bool.not_eq_false] at hb
    obtain ⟨hb1, hb2⟩ := hb
    have HB1 := Lib.hid hb1
    have HB2 := Lib.hid hb2
    clear hb1 hb2
    go_enter Try.func9, Try.ntmps9
    go_wp2_with (first
    | (
      go_at_call 16
      refine (HS HFa.out.dom (by omega)).mono ?_
      rintro e w1 ⟨rfl, T1, hF1, hok1⟩
      have k0 : w1.cell? ⟨w.heap.size, 0, none⟩ = some (.int .i64 places) := hF1.cell (by go_simp) (by simp only [hnew]; omega)
      have k1 : w1.cell? ⟨w.heap.size, 1, none⟩ = some (.slice IA items.length icap) := hF1.cell (by go_simp) (by simp only [hnew]; omega)
      have k2 : w1.cell? ⟨w.heap.size, 2, none⟩ = some (.slice LA l.length lcap) := hF1.cell (by go_simp) (by simp only [hnew]; omega)
      have HT1 := Lib.hid (hF1.same w.heap.size (by simp))
      have HW1 := Lib.hid (HW.out.fr hF1 (fun t h => by omega))
      have HF1 := Lib.hid ((HFa.out.mono (S' := fun t => 1 ≤ t.1) (fun _ h => h.elim)).trans (hF1.mono (fun t h => by omega)))
      clear hF1)
    | (
      go_at_call 39
      refine (p_begun 100 HW1.out HF1.out.dom (by omega) HB1.out HB2.out).mono ?_
      rintro e w2 ⟨p, rfl, T2, hL2, hF2⟩
      have m1 : w2.cell? ⟨w.heap.size, 1, none⟩ = some (.slice IA items.length icap) := hF2.cell k1 (by simp only [HT1.out, hnew]; omega)
      have HL2 := Lib.hid hL2
      have HF2 := Lib.hid (HF1.out.trans (hF2.mono (fun t h => by omega)))
      clear hF2 hL2 k0 k1 k2))
    have hn : (runG (beginG places.toNat items) l).n = items.length := by rw [runG_same]; rfl
    generalize runG (beginG places.toNat items) l = g at HL2 hn
    have HN := Lib.hid hn
    clear hn
    go_loopw [26] (fun i wr => ∃ n : Nat, n ≤ items.length ∧ i = .int .i64 n ∧ ∃ Tr : Nat → Tag, Hid (LiveP Tr 100 wr p g 80) ∧ Hid (Fr (fun t => 1 ≤ t.1) tag Tr w wr)) (fun i _ => items.length - (intOf i).toNat)
    case atStart => exact ⟨0, Nat.zero_le _, rfl, T2, HL2, HF2⟩
    case round =>
      obtain ⟨n, hn, rfl, Tr, HLr, HFr⟩ := hrel
      by_cases hlt : n < items.length
      · have HJ : Hid (n < g.n) := Lib.hid (by rw [HN.out]; exact hlt)
        have HV : Hid ((g.items n).ver = ((g.items n).hist.length : Int)) := Lib.hid (HLr.out.good.inv.vh n)
        have HD := Lib.hid (HLr.out.good.inv.hnd n)
        have hhl : (g.items n).hist.length ≤ 80 := by have := hist_len HLr.out.good n; have := HLr.out.np; omega
        obtain ⟨hl, hhl0⟩ : ∃ x, x = (g.items n).hist := ⟨_, rfl⟩
        rw [← hhl0] at HV HD hhl
        have HH := Lib.hid hhl0
        clear hhl0
        go_wp2_with (first
        | (
          go_at_call 49
          refine (p_history (j := n) (300, 0, 0) HLr.out HJ.out (by decide)).mono ?_
          rintro e w3 ⟨v3, rfl, T3, hrow, hF3⟩
          rw [← HH.out] at hrow
          obtain ⟨A3, c3, rfl, z1, z2⟩ := hrow.form
          unfold maxLen at z2
          have HR3 := Lib.hid hrow
          have HL3 := Lib.hid (HLr.out.frF hF3)
          have HF3 := Lib.hid (HFr.out.trans (hF3.mono (fun _ h => h.elim)))
          clear hrow hF3)
        | (
          go_at_call 50
          refine (p_version (j := n) HL3.out HJ.out).mono ?_
          rw [HV.out]
          rintro e w4 ⟨rfl, hF4⟩
          have HR4 := Lib.hid (HR3.out.fr hF4 (fun x => x))
          have HL4 := Lib.hid (HL3.out.frF hF4)
          have HF4 := Lib.hid (HF3.out.trans (hF4.mono (fun _ h => h.elim)))
          clear hF4))
        go_loopw [55] (fun i wq => ∃ m : Nat, m ≤ hl.length ∧ i = .int .i64 m ∧ Hid (Fr (fun _ => False) T3 T3 w4 wq)) (fun i _ => hl.length - (intOf i).toNat)
        case atStart => exact ⟨0, Nat.zero_le _, rfl, Lib.hid (Fr.refl HF4.out.dom)⟩
        case round =>
          obtain ⟨m, hm, rfl, HFq⟩ := hrel
          by_cases hmt : m < hl.length
          · obtain ⟨x, hx⟩ : ∃ x, hl[m]? = some x := ⟨_, List.getElem?_eq_getElem hmt⟩
            have hr4 := HR4.out.fr HFq.out (fun x => x)
            obtain ⟨b, rfl, _, _, hcell⟩ := hr4.cell rfl (j := m) (by simpa [ints] using hmt)
            have e0 : wr.cell? ⟨b, m, none⟩ = some (.int .i64 x) := by rw [hcell, ints, List.getElem?_map, hx]; rfl
            have HPR := Lib.hid (row_prefix hr4 (i := m) (by omega))
            have hno : decide (x ∈ hl.take m) = false := decide_eq_false (nodup_take HD.out hx)
            have HNO := Lib.hid hno
            have i5 : (0 : Int) ≤ (m : Int) := by omega
            have i6 : (m : Int) < (hl.length : Int) := by omega
            have i7 : (m : Int) ≤ (c3 : Int) := by omega
            have htl : (hl.take m).length = m := by rw [List.length_take]; omega
            have HTL := Lib.hid htl
            have hc3 : ¬ c3 = m ∨ c3 = m := by omega
            clear hx hr4 hcell hno htl hc3
            go_wp2_with (
              go_at_call 51
              refine (containsN_ok (hl.take m) x wr (by rw [HTL.out]; exact HPR.out) (by rw [HTL.out]; omega)).mono ?_
              rw [HNO.out]
              rintro e w' ⟨rfl, hw⟩
              replace hw := hw.symm
              subst hw)
            go_roundw
            case rel => exact ⟨m + 1, by omega, by go_num, HFq⟩
            case measure => simp [intOf]; omega
          · have hmm : m = hl.length := by omega
            subst hmm
            go_wp2_with fail
            go_roundw
            case rel => exact ⟨n + 1, by omega, by go_num, T3, Lib.hid (HL4.out.frF HFq.out), Lib.hid (HF4.out.trans (HFq.out.mono (fun _ h => h.elim)))⟩
            case measure => simp [intOf]; omega
      · have hnn : n = items.length := by omega
        subst hnn
        go_wp2_with fail
        go_ret
        exact ⟨rfl, Tr, HFr.out⟩
end Go.Proofs.Ytclkokkppgchfaa
