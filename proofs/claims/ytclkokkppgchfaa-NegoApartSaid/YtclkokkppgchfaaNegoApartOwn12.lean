/- A part of the proof: texts of this session, joined. -/
import Derived.Test.YtclkokkppgchfaaNegoApartOwn11
import Derived.Test.YtclkokkppgchfaaPart4
import Derived.Deep.DeepCutAuto
import Derived.Maps.Own
import Derived.Test.YtclkokkppgchfaaPart10
/- NegoProgress: the walk. -/
namespace Go.Proofs.Ytclkokkppgchfaa
open Go.RowKit Go.Ng Go.Proofs.YtclkokkppgchfaaW.PrintLast
set_option linter.unusedSimpArgs false
set_option linter.unusedVariables false
/-- The claims whose items there are, with the present versions. -/
def selC (g0 : G) (n : Nat) (c : Clm) : Option Clm := if 0 ≤ c.item ∧ c.item < n then some ⟨c.item, (g0.items c.item).ver⟩ else none
def filtL (g0 : G) (n : Nat) (cs : List Clm) : List Clm := cs.filterMap (selC g0 n)
theorem filtL_len (g0 : G) (n : Nat) (cs : List Clm) : (filtL g0 n cs).length ≤ cs.length := List.length_filterMap_le _ _
theorem filtL_ver (g0 : G) (I : NGood g0) (n : Nat) (cs : List Clm) : ∀ c ∈ filtL g0 n cs, c.version = (g0.items c.item).hist.length := by
  intro c hc
  simp only [filtL, List.mem_filterMap] at hc
  obtain ⟨d, _, hd⟩ := hc
  unfold selC at hd
  split at hd
  · injection hd with hd
    subst hd
    exact I.inv.vh d.item
  · cases hd
theorem filtL_yes (g0 : G) (n : Nat) {cs : List Clm} {j : Nat} {c : Clm} (hc : cs[j]? = some c) (h : 0 ≤ c.item ∧ c.item < n) : filtL g0 n (cs.take (j + 1)) = filtL g0 n (cs.take j) ++ [⟨c.item, (g0.items c.item).ver⟩] := by
  obtain ⟨hj, he⟩ := List.getElem?_eq_some_iff.1 hc
  rw [List.take_succ_eq_append_getElem hj, he, filtL, filtL, List.filterMap_append]
  congr 1
  simp [selC, h]
theorem filtL_no (g0 : G) (n : Nat) {cs : List Clm} {j : Nat} {c : Clm} (hc : cs[j]? = some c) (h : ¬ (0 ≤ c.item ∧ c.item < n)) : filtL g0 n (cs.take (j + 1)) = filtL g0 n (cs.take j) := by
  obtain ⟨hj, he⟩ := List.getElem?_eq_some_iff.1 hc
  rw [List.take_succ_eq_append_getElem hj, he, filtL, filtL, List.filterMap_append]
  have : List.filterMap (selC g0 n) [c] = [] := by simp [selC, h]
  rw [this, List.append_nil]
theorem doP_np (g : G) (n : Int) (l : List Clm) : ((doP g n l).2.2.2 = 0 ∧ (doP g n l).1.np = g.np + 1) ∨ ((doP g n l).2.2.2 ≠ 0 ∧ (doP g n l).1 = g) := by
  unfold doP
  split
  · exact .inr ⟨by simp, rfl⟩
  · split
    · exact .inr ⟨by simp, rfl⟩
    · split
      · exact .inl ⟨rfl, rfl⟩
      · exact .inr ⟨by simp, rfl⟩
theorem few_claims {n : Nat} {l : List OpM} (h : fewB n l = true) {o : OpM} (ho : o ∈ l) : o.claims.length ≤ 100 := by
  simp only [fewB, Bool.and_eq_true, Bool.not_eq_true', List.any_eq_false] at h
  have := h.2 o ho
  simp only [bigO, decide_eq_true_eq] at this
  omega
set_option pp.deepTerms true
set_option pp.maxSteps 1000000
set_option maxRecDepth 100000 in
set_option maxHeartbeats 12800000 in
theorem negoProgress_ok {tag : Nat → Tag} {w : World} {v vo vc : Value} {places : Int} {items choices : List Int} {l more : List OpM} (h : WorldRd tag w v places items l) (ho : OpsRd tag w vo more) (hc : Rd 1 w vc choices.length (ints choices)) (hce : Ext tag w vc) (hok : TagOk tag w) :
    Calls Try.prog 11 #[v, vo, vc] w fun e w' => e = .returned (.bool true) ∧ ∃ tag', Fr (fun t => 1 ≤ t.1) tag tag' w w' := by
  have HS := fun {tag : Nat → Tag} {w : World} => @sane_ok tag w 1
  obtain ⟨vi, vl, rfl, hi, hie, hl⟩ := h.form
  obtain ⟨IA, icap, rfl, q1, q2⟩ := hi.slice
  obtain ⟨LA, lcap, rfl, q3, q4⟩ := hl.slice
  obtain ⟨CA, ccap, rfl, q5, q6⟩ := hc.slice
  obtain ⟨OA, ocap, rfl, q7, q8⟩ := ho.slice
  unfold maxLen at q2 q6 q8
  have hFa : Fr (fun _ => False) tag tag w (w.alloc (.cells #[.int .i64 places, .slice IA items.length icap, .slice LA l.length lcap] 75)) := Fr.alloc hok _
  have HFa := Lib.hid hFa
  have HW := Lib.hid (h.fr hFa (fun t h => h.elim))
  have HCR := Lib.hid (hc.frF hFa)
  have HCE := Lib.hid (hce.fr hFa)
  have HO := Lib.hid (ho.fr hFa (fun t h => h.elim))
  have HI := Lib.hid (hi.frF hFa)
  have HIE := Lib.hid (hie.fr hFa)
  have hnew : (tag w.heap.size).1 = 0 := hok.new
  clear h hi hie hl hFa hc hce ho
  by_cases hb : fewB items.length l = false ∨ validB places items = false
  · have HB := Lib.hid hb
    clear hb
    go_enter Try.func11, Try.ntmps11
    go_wp2_with (first
    | (
      go_at_call 16
      refine (HS HFa.out.dom (by omega)).mono ?_
      rintro e w1 ⟨rfl, T1, hF1, hok1⟩
      have k0 : w1.cell? ⟨w.heap.size, 0, none⟩ = some (.int .i64 places) := hF1.cell (by go_simp) (by simp only [hnew]; omega)
      have k1 : w1.cell? ⟨w.heap.size, 1, none⟩ = some (.slice IA items.length icap) := hF1.cell (by go_simp) (by simp only [hnew]; omega)
      have k2 : w1.cell? ⟨w.heap.size, 2, none⟩ = some (.slice LA l.length lcap) := hF1.cell (by go_simp) (by simp only [hnew]; omega)
      have HT1 := Lib.hid (hF1.same w.heap.size (by simp))
      have HW1 := Lib.hid (HW.out.fr hF1 (fun t h => by omega))
      have HCR1 := Lib.hid (HCR.out.ext HCE.out hF1 (fun t h => by omega))
      have HCE1 := Lib.hid (HCE.out.fr hF1)
      have HO1 := Lib.hid (HO.out.fr hF1 (fun t h => by omega))
      have HI1 := Lib.hid (HI.out.ext HIE.out hF1 (fun t h => by omega))
      have HIE1 := Lib.hid (HIE.out.fr hF1)
      have HF1 := Lib.hid ((HFa.out.mono (S' := fun t => 1 ≤ t.1) (fun _ h => h.elim)).trans (hF1.mono (fun t h => by omega)))
      clear hF1)
    | (
      go_at_call 39
      refine (begun_no HW1.out HF1.out.dom HB.out).mono ?_
      rintro e w2 ⟨rfl, hF2⟩
      have HF2 := Lib.hid (HF1.out.trans (hF2.mono (fun _ h => h.elim)))
      clear hF2))
    go_ret
    exact ⟨rfl, T1, HF2.out⟩
  · simp only [not_or, Bool.not_eq_false] at hb
    obtain ⟨hb1, hb2⟩ := hb
    have HB1 := Lib.hid hb1
    have HB2 := Lib.hid hb2
    have hn0 : (runG (beginG places.toNat items) l).n = items.length := by rw [runG_same]; rfl
    clear hb1 hb2
    have HN0 := Lib.hid hn0
    clear hn0
    go_enter Try.func11, Try.ntmps11
    go_upto_region 4 with (first
      | (
      go_at_call 16
      refine (HS HFa.out.dom (by omega)).mono ?_
      rintro e w1 ⟨rfl, T1, hF1, hok1⟩
      have k0 : w1.cell? ⟨w.heap.size, 0, none⟩ = some (.int .i64 places) := hF1.cell (by go_simp) (by simp only [hnew]; omega)
      have k1 : w1.cell? ⟨w.heap.size, 1, none⟩ = some (.slice IA items.length icap) := hF1.cell (by go_simp) (by simp only [hnew]; omega)
      have k2 : w1.cell? ⟨w.heap.size, 2, none⟩ = some (.slice LA l.length lcap) := hF1.cell (by go_simp) (by simp only [hnew]; omega)
      have HT1 := Lib.hid (hF1.same w.heap.size (by simp))
      have HW1 := Lib.hid (HW.out.fr hF1 (fun t h => by omega))
      have HCR1 := Lib.hid (HCR.out.ext HCE.out hF1 (fun t h => by omega))
      have HCE1 := Lib.hid (HCE.out.fr hF1)
      have HO1 := Lib.hid (HO.out.fr hF1 (fun t h => by omega))
      have HI1 := Lib.hid (HI.out.ext HIE.out hF1 (fun t h => by omega))
      have HIE1 := Lib.hid (HIE.out.fr hF1)
      have HF1 := Lib.hid ((HFa.out.mono (S' := fun t => 1 ≤ t.1) (fun _ h => h.elim)).trans (hF1.mono (fun t h => by omega)))
      clear hF1)
      | (
      go_at_call 39
      refine (p_begun 100 HW1.out HF1.out.dom (by omega) HB1.out HB2.out).mono ?_
      rintro e w2 ⟨p, rfl, T2, hL2, hF2⟩
      have m1 : w2.cell? ⟨w.heap.size, 1, none⟩ = some (.slice IA items.length icap) := hF2.cell k1 (by simp only [HT1.out, hnew]; omega)
      have HT2 := Lib.hid ((hF2.same w.heap.size (World.block_lt_of_cell? w1 _ k0)).trans HT1.out)
      have HL2 := Lib.hid hL2
      have HCR2 := Lib.hid (HCR1.out.ext HCE1.out hF2 (fun t h => by omega))
      have HCE2 := Lib.hid (HCE1.out.fr hF2)
      have HO2 := Lib.hid (HO1.out.fr hF2 (fun t h => by omega))
      have HI2 := Lib.hid (HI1.out.ext HIE1.out hF2 (fun t h => by omega))
      have HF2 := Lib.hid (HF1.out.trans (hF2.mono (fun t h => by omega)))
      clear hF2 hL2 k0 k1 k2))
    obtain ⟨j0, hj, hy0, hy1, hy2⟩ := info_parts Try.info69
    generalize runG (beginG places.toNat items) l = g at HL2 HN0
    obtain ⟨bad, hbad⟩ : ∃ b : Bool, b = (decide (2000 < (choices.length : Int)) || decide (20 < (more.length : Int)) || !fewB items.length more) := ⟨_, rfl⟩
    have HFW := Lib.hid (few_ok HI2.out HO2.out HF2.out.dom)
    go_cut [52] (fun s wx => s = .bool bad ∧ Hid (Fr (fun _ => False) T2 T2 w2 wx))
    case first =>
      go_wp2_with (
        go_at_call 17
        refine HFW.out.mono ?_
        rintro e w3 ⟨rfl, hF3⟩
        have HF3 := Lib.hid hF3
        clear hF3)
      all_goals
        go_meet
        case rel => exact ⟨by rw [hbad]; (try simp [*]), by first | exact HF3 | exact Lib.hid (Fr.refl HF2.out.dom)⟩
    case rest =>
    obtain ⟨rfl, HFx⟩ := hcut
    cases bad
    case true =>
      clear hbad
      go_wp2_with fail
      go_ret
      exact ⟨rfl, T2, HF2.out.trans (HFx.out.mono (fun _ h => h.elim))⟩
    case false =>
    obtain ⟨hb1, hb2, hb3⟩ : choices.length ≤ 2000 ∧ more.length ≤ 20 ∧ fewB items.length more = true := by
      have := hbad.symm
      simp only [Bool.or_eq_false_iff, decide_eq_false_iff_not, Bool.not_eq_false', Int.not_lt] at this
      exact ⟨by omega, by omega, this.2⟩
    have HFEW := Lib.hid hb3
    clear hbad hb3
    have m2 : wc.cell? ⟨w.heap.size, 1, none⟩ = some (.slice IA items.length icap) := HFx.out.cellF m1
    have HTc := Lib.hid ((HFx.out.same w.heap.size (World.block_lt_of_cell? w2 _ m1)).trans HT2.out)
    have HLc := Lib.hid (HL2.out.frF HFx.out)
    have HOc := Lib.hid (HO2.out.fr HFx.out (fun _ h => h.elim))
    have HCRc := Lib.hid (HCR2.out.frF HFx.out)
    have HCEc := Lib.hid (HCE2.out.fr HFx.out)
    have HFc := Lib.hid (HF2.out.trans (HFx.out.mono (S' := fun t => 1 ≤ t.1) (fun _ h => h.elim)))
    clear m1
    go_upto_region 8 with (
      go_at_call 37
      refine (calm_ok [] HLc.out (by decide) (v := .slice none 0 0) ⟨rfl, by simp [ints], .inl ⟨rfl, rfl⟩⟩ (fun b off m cap h => by cases h) (by simp)).mono ?_
      rintro e w4 ⟨rfl, mc, T4, hfl, hm, hL4, hF4⟩
      have m4 : w4.cell? ⟨w.heap.size, 1, none⟩ = some (.slice IA items.length icap) := hF4.cell m2 (by simp only [HTc.out, hnew]; omega)
      have HL4 := Lib.hid hL4
      have HFL := Lib.hid hfl
      have HO4 := Lib.hid (HOc.out.fr hF4 (fun t h => by omega))
      have HCR4 := Lib.hid (HCRc.out.ext HCEc.out hF4 (fun t h => by omega))
      have HCE4 := Lib.hid (HCEc.out.fr hF4)
      have HT4 := Lib.hid ((hF4.same w.heap.size (World.block_lt_of_cell? wc _ m2)).trans HTc.out)
      have HF4 := Lib.hid (HFc.out.trans (hF4.mono (fun t h => by omega)))
      clear hL4 hfl hF4 m2 hm)
    have hgn : (calmN [] g mc).1.n = items.length := by rw [(calmN_n _ _ _).1]; exact HN0.out
    generalize (calmN [] g mc).1 = g0 at HL4 HFL hgn
    have HN := Lib.hid hgn
    have HST := Lib.hid (still_of HFL.out)
    have HG0 := Lib.hid HL4.out.good
    obtain ⟨MM, hMM⟩ := tag_max T4 w4.heap.size
    have hPV := p_versions HL4.out (600, 0, MM) (fun b hb e => by have := hMM b hb; rw [e] at this; simp at this) (.inr (show 132 < 600 by decide)) (show 600 ≠ 0 by decide)
    rw [hgn] at hPV
    have HPV := Lib.hid hPV
    have hn64 : items.length ≤ 64 := by rw [← hgn]; exact HL4.out.n64
    clear hMM hPV hgn
    go_wp2_with (first
    | (
      go_at_call 53
      refine HPV.out.mono ?_
      rintro e w5 ⟨v5, rfl, T5, hrow, hF5⟩
      obtain ⟨A5, c5, rfl, y3, y4⟩ := hrow.form
      unfold maxLen at y4
      have HV5 := Lib.hid hrow
      have m5 : w5.cell? ⟨w.heap.size, 1, none⟩ = some (.slice IA items.length icap) := hF5.cellF m4
      have HL5 := Lib.hid (HL4.out.frF hF5)
      have HF5 := Lib.hid hF5
      have HLT4 := Lib.hid (World.block_lt_of_cell? w4 _ m4)
      clear hrow hF5 m4)
    | (
      go_at_call 56
      refine (p_decided (300, 0, 0) HL5.out (by decide)).mono ?_
      rintro e w6 ⟨v6, rfl, T6, hrow, hF6⟩
      obtain ⟨A6, c6, rfl, y1, y2⟩ := hrow.form
      unfold maxLen at y2
      have m6 : w6.cell? ⟨w.heap.size, 1, none⟩ = some (.slice IA items.length icap) := hF6.cellF m5
      have HV6 := Lib.hid (HV5.out.fr hF6 (fun x => x))
      have HL6 := Lib.hid (HL5.out.frF hF6)
      have HF6 := Lib.hid (HF5.out.trans hF6)
      clear hrow hF6 m5)
    | (
      go_at_call 48
      refine (p_proposals 400 HL6.out (by omega) (by decide)).mono ?_
      rintro e w7 ⟨v7, vs, rfl, T7, hrow, hcl, hF7⟩
      obtain ⟨A7, c7, rfl, z1, z2⟩ := hrow.form
      unfold maxLen at z2
      have m7 : w7.cell? ⟨w.heap.size, 1, none⟩ = some (.slice IA items.length icap) := hF7.cell m6 (by have h1 := HF6.out.same w.heap.size HLT4.out; simp only [h1, HT4.out, hnew]; omega)
      have HL7 := Lib.hid (HL6.out.fr hF7 (fun t h => by omega))
      have HV7 := Lib.hid (HV6.out.fr hF7 (by simp))
      have hF47 := (HF6.out.mono (S' := fun t => t.1 = 400) (fun _ h => h.elim)).trans hF7
      have HF7 := Lib.hid hF47
      clear hrow hcl hF7 hF47 m6))
    have hHT7 := HF7.out.same w.heap.size HLT4.out
    have HT7 : Hid (T7 w.heap.size = tag w.heap.size) := Lib.hid (hHT7.trans HT4.out)
    have HO7 := Lib.hid (HO4.out.fr HF7.out (fun t h => by omega))
    have HCR7 := Lib.hid (HCR4.out.ext HCE4.out HF7.out (fun t h => by omega))
    have HCE7 := Lib.hid (HCE4.out.fr HF7.out)
    have HFW7 := Lib.hid (HF4.out.trans (HF7.out.mono (S' := fun t => 1 ≤ t.1) (fun t h => by omega)))
    have HA0 := Lib.hid (Ahead.init HG0.out HST.out)
    have hnp0 : g0.np ≤ 80 := HL7.out.np
    clear hHT7
    go_loopw [78, 13] (fun i b wr => ∃ m : Nat, m ≤ more.length ∧ i = .int .i64 m ∧ ∃ (bN : Nat) (gm : G) (Tr : Nat → Tag), b = .int .i64 bN ∧ bN ≤ m ∧ Hid (Ahead g0 gm) ∧ Hid (gm.np = g0.np + bN) ∧ Hid (LiveP Tr 100 wr p gm (80 + m)) ∧ Hid (Fr (fun t => 100 ≤ t.1 ∧ t.1 ≤ 132) T7 Tr w7 wr)) (fun i _ _ => more.length - (intOf i).toNat)
    case atStart => exact ⟨0, Nat.zero_le _, rfl, 0, g0, T7, rfl, Nat.le_refl _, HA0, Lib.hid rfl, HL7, Lib.hid (Fr.refl HL7.out.ok)⟩
    case round =>
      obtain ⟨m, hm, rfl, bN, gm, Tr, rfl, hbN, HA, HNP, HLr, HFr⟩ := hrel
      by_cases hmt : m < more.length
      · obtain ⟨⟨ok, on, cs⟩, hx⟩ : ∃ o, more[m]? = some o := ⟨_, List.getElem?_eq_getElem hmt⟩
        have hcs100 : cs.length ≤ 100 := few_claims HFEW.out (List.mem_of_getElem? hx)
        obtain ⟨ob, ooff, ocap', u, hov, o0, o1, o2, hxr⟩ := (HO7.out.fr HFr.out (fun t h => by omega)).get hx
        injection hov with hov _ hov2
        subst hov hov2
        simp only at o0 o1 o2 hxr
        obtain ⟨UA, ucap, rfl, u2⟩ := hxr.slice
        unfold maxLen at u2
        have HXR := Lib.hid hxr
        have i5 : (0 : Int) ≤ (m : Int) := by omega
        have i6 : (m : Int) < (more.length : Int) := by omega
        have hokr := HFr.out.dom
        clear hx hxr
        go_upto_region 18 with fail
        obtain ⟨w8, hw8⟩ : ∃ w8, w8 = wr.alloc (.cells #[.int .i64 ok, .int .i64 on, .slice UA cs.length ucap] 36) := ⟨_, rfl⟩
        obtain ⟨bo, hbo⟩ : ∃ bo, bo = wr.heap.size := ⟨_, rfl⟩
        have hF8 : Fr (fun _ => False) Tr Tr wr w8 := by rw [hw8]; exact Fr.alloc hokr _
        have n1 : w8.cell? ⟨bo, 1, none⟩ = some (.int .i64 on) := by rw [hw8, hbo]; go_simp
        have n2 : w8.cell? ⟨bo, 2, none⟩ = some (.slice UA cs.length ucap) := by rw [hw8, hbo]; go_simp
        rw [← hw8, ← hbo]
        have HL8 := Lib.hid (HLr.out.frF hF8)
        have HX8 := Lib.hid (HXR.out.frF hF8)
        have HV8 := Lib.hid ((HV7.out.fr HFr.out (by simp)).fr hF8 (fun x => x))
        have HF8 := Lib.hid (HFr.out.trans (hF8.mono (fun _ h => h.elim)))
        obtain ⟨M2, hM2⟩ := tag_max Tr w8.heap.size
        have HM2 : Hid (∀ b, b < w8.heap.size → Tr b ≠ ((0, 5, M2) : Tag)) := Lib.hid (fun b hb e => by have := hM2 b hb; rw [e] at this; simp at this)
        clear hw8 hbo hF8 hM2 o0 o1 o2 hokr
        go_wp2_with fail
        go_loopw [85, 16] (fun i a wq => ∃ j : Nat, j ≤ cs.length ∧ i = .int .i64 j ∧ ∃ (A2 : Option Addr) (cap2 : Nat) (L : List Clm), a = .slice A2 L.length cap2 ∧ Hid (L = filtL g0 items.length (cs.take j)) ∧ ∃ Tk : Nat → Tag, Hid (Row Tk (0, 5, M2) 69 2 wq (.slice A2 L.length cap2) L.length (claims L)) ∧ Hid (Fr (fun t => t = (0, 5, M2)) Tr Tk w8 wq)) (fun i _ _ => cs.length - (intOf i).toNat)
        case atStart => exact ⟨0, Nat.zero_le _, rfl, none, 0, [], rfl, Lib.hid (by simp [filtL]), Tr, Lib.hid (Row.nil _ _ _ _ _), Lib.hid (Fr.refl HF8.out.dom)⟩
        case round =>
          obtain ⟨j, hjj, rfl, A2, cap2, L, rfl, HLL, Tk, HR, HG⟩ := hrel
          have HF := Lib.hid (HG.out.fresh HM2.out)
          have hLlen : L.length ≤ 100 := by rw [HLL.out]; have h1 := filtL_len g0 items.length (cs.take j); rw [List.length_take] at h1; omega
          by_cases hjt : j < cs.length
          · obtain ⟨⟨ci, cv⟩, hcx⟩ : ∃ c, cs[j]? = some c := ⟨_, List.getElem?_eq_getElem hjt⟩
            have hrd : Rd 2 w8 (.slice UA cs.length ucap) cs.length (claims cs) := by
              rcases HX8.out with h | ⟨h, _⟩
              · exact h.1
              · rw [h] at hjt; simp at hjt
            obtain ⟨cb, coff, ccap', he, _, _, hac⟩ := Rd.elem (enc := Clm.cells) (hrd.frF HF.out) (fun _ => rfl) (by decide) hcx
            injection he with he _ he2
            subst he he2
            have f0 : wr.cell? ⟨cb, coff + j * 2, none⟩ = some (.int .i64 ci) := hac 0 _ rfl
            have f1 : wr.cell? ⟨cb, coff + j * 2 + 1, none⟩ = some (.int .i64 cv) := hac 1 _ rfl
            have i7 : (0 : Int) ≤ (j : Int) := by omega
            have i9 : (j : Int) < (cs.length : Int) := by omega
            have hokk := HF.out.dom
            clear hrd hac
            by_cases hsel : 0 ≤ ci ∧ ci < items.length
            · obtain ⟨jn, rfl⟩ : ∃ jn : Nat, ci = jn := ⟨ci.toNat, by omega⟩
              have hjn : jn < items.length := by omega
              have hfy := filtL_yes g0 items.length hcx hsel
              obtain ⟨ver, hver⟩ : ∃ x, x = (g0.items jn).ver := ⟨_, rfl⟩
              simp only [← hver] at hfy
              obtain ⟨b5, rfl, _, _, hcell⟩ := (HV8.out.fr HF.out (fun x => x)).cell rfl (j := jn) (by simp [ints, versG_len]; exact hjn)
              have e5 : wr.cell? ⟨b5, jn, none⟩ = some (.int .i64 ver) := by rw [hcell, ints, List.getElem?_map, versG_get g0 hjn, ← hver]; rfl
              have HFY := Lib.hid hfy
              have i10 : (0 : Int) ≤ (jn : Int) := by omega
              have i11 : (jn : Int) < (items.length : Int) := by omega
              have i12 : decide ((0 : Int) ≤ (jn : Int)) = true := decide_eq_true i10
              have i13 : decide ((jn : Int) < (items.length : Int)) = true := decide_eq_true i11
              have hFd : Fr (fun _ => False) Tk Tk wr (wr.alloc (.cells #[.int .i64 jn, .int .i64 cv] 69)).drew := (Fr.alloc hokk _).dr
              have n0 : (wr.alloc (.cells #[.int .i64 jn, .int .i64 cv] 69)).drew.cell? ⟨wr.heap.size, 0, none⟩ = some (.int .i64 jn) := by go_simp
              have HFd := Lib.hid hFd
              have HN0' := Lib.hid n0
              have HE5 := Lib.hid (hFd.cellF e5)
              clear hfy hver hcell hsel hcx hFd n0
              go_wp2_with fail
              refine start_ (n := 12) (S := fun w' => w'.cell? ⟨wr.heap.size, 0, none⟩ = some (.int .i64 jn) ∧ w'.cell? ⟨b5, jn, none⟩ = some (.int .i64 ver)) (ds := [8, 9, 10]) #[false, false, false, false, false, false, false, false, false, false, false, false] (by kernel_rfl) rfl rfl ⟨HN0'.out, HE5.out⟩ (fun hHeld => ?_)
              refine pure_ (i := 0) (N := some 99) (v := ?_) (a' := ?_) #[true, false, false, false, false, false, false, false, false, false, false, false] rfl rfl (by kernel_rfl) (fun _ _ _ h => h) (Or.inl ⟨by rfl, ?_⟩) ?_ ?_
              rotate_left
              · intro w'
                go_simp
                with_reducible rfl
              rotate_left
              · simp only [Act.put, List.setIfInBounds_toArray, List.set_cons_zero, List.set_cons_succ, i64_w, i32_w]
                rfl
              refine pure_ (i := 1) (N := some 100) (v := ?_) (a' := ?_) #[true, true, false, false, false, false, false, false, false, false, false, false] rfl rfl (by kernel_rfl) (fun _ _ _ h => h) (Or.inl ⟨by rfl, ?_⟩) ?_ ?_
              rotate_left
              · intro w'
                go_simp
                with_reducible rfl
              rotate_left
              · simp only [Act.put, List.setIfInBounds_toArray, List.set_cons_zero, List.set_cons_succ, i64_w, i32_w]
                rfl
              refine pure_ (i := 3) (N := some 102) (v := ?_) (a' := ?_) #[true, true, false, true, false, false, false, false, false, false, false, false] rfl rfl (by kernel_rfl) (fun _ _ _ h => h) (Or.inl ⟨by rfl, ?_⟩) ?_ ?_
              rotate_left
              · intro w'
                go_simp
                with_reducible rfl
              rotate_left
              · simp only [Act.put, List.setIfInBounds_toArray, List.set_cons_zero, List.set_cons_succ, i64_w, i32_w]
                rfl
              refine pure_ (i := 4) (N := some 103) (v := ?_) (a' := ?_) #[true, true, false, true, true, false, false, false, false, false, false, false] rfl rfl (by kernel_rfl) (fun _ _ _ h => h) (Or.inl ⟨by rfl, ?_⟩) ?_ ?_
              rotate_left
              · intro w'
                go_simp
                with_reducible rfl
              rotate_left
              · simp only [Act.put, List.setIfInBounds_toArray, List.set_cons_zero, List.set_cons_succ, i64_w, i32_w]
                rfl
              refine take_ (i := 2) (N := some 101) (v := ?_) (a' := ?_) #[true, true, true, true, true, false, false, false, false, false, false, false] rfl rfl (by kernel_rfl) (fun _ _ _ h => h) (Or.inl ⟨by rfl, ?_⟩) hHeld ?_ ?_
              rotate_left
              · rintro w' ⟨s0, s1⟩
                go_simp
                with_reducible rfl
              rotate_left
              · simp only [Act.put, List.setIfInBounds_toArray, List.set_cons_zero, List.set_cons_succ, i64_w, i32_w]
                rfl
              refine take_ (i := 5) (N := some 104) (v := ?_) (a' := ?_) #[true, true, true, true, true, true, false, false, false, false, false, false] rfl rfl (by kernel_rfl) (fun _ _ _ h => h) (Or.inl ⟨by rfl, ?_⟩) hHeld ?_ ?_
              rotate_left
              · rintro w' ⟨s0, s1⟩
                go_simp
                with_reducible rfl
              rotate_left
              · simp only [Act.put, List.setIfInBounds_toArray, List.set_cons_zero, List.set_cons_succ, i64_w, i32_w]
                rfl
              refine pure_ (i := 6) (N := some 105) (v := ?_) (a' := ?_) #[true, true, true, true, true, true, true, false, false, false, false, false] rfl rfl (by kernel_rfl) (fun _ _ _ h => h) (Or.inl ⟨by rfl, ?_⟩) ?_ ?_
              rotate_left
              · intro w'
                go_simp
                with_reducible rfl
              rotate_left
              · simp only [Act.put, List.setIfInBounds_toArray, List.set_cons_zero, List.set_cons_succ, i64_w, i32_w]
                rfl
              refine take_ (i := 7) (N := some 106) (v := ?_) (a' := ?_) #[true, true, true, true, true, true, true, true, false, false, false, false] rfl rfl (by kernel_rfl) (fun _ _ _ h => h) (Or.inl ⟨by rfl, ?_⟩) hHeld ?_ ?_
              rotate_left
              · rintro w' ⟨s0, s1⟩
                go_simp
                with_reducible rfl
              rotate_left
              · simp only [Act.put, List.setIfInBounds_toArray, List.set_cons_zero, List.set_cons_succ, i64_w, i32_w]
                rfl
              refine last_ (i := 8) (N := some 107) #[true, true, true, true, true, true, true, true, true, false, false, false] rfl rfl (by kernel_rfl) (by decide) (fun K hK => ?_)
              refine goes_ Try.func54 (by kernel_rfl) rfl #[.int .i64 (jn : Int), .int .i64 ver] (by rfl) rfl rfl (by simp only [List.map_toArray, List.map_cons, List.map_nil]; rfl) ?_
              refine (claim_ok (jn : Int) ver HFd.out.dom).mono ?_
              rintro e w9 ⟨rfl, hF9⟩
              have HR9 := Lib.hid ((HR.out.fr HFd.out (fun x => x)).fr hF9 (fun x => x))
              have HF9 := Lib.hid (HFd.out.trans hF9)
              have hok9 := hF9.dom
              clear hF9
              refine ⟨_, rfl, ?_⟩
              refine hK.out _ _ ?_
              clear hK K
              refine norm_ (a' := ?_) ?_ ?_
              rotate_left
              · show Act.put _ (some 107) _ = _
                simp only [Act.put, List.setIfInBounds_toArray, List.set_cons_zero, List.set_cons_succ, i64_w, i32_w]
                rfl
              refine last_ (i := 9) (N := some 108) #[true, true, true, true, true, true, true, true, true, true, false, false] rfl rfl (by kernel_rfl) (by decide) (fun K hK => ?_)
              refine value_ (w1 := ?_) (v := ?_) (by rfl) rfl ?_ ?_
              rotate_left 2
              · go_simp
                constructor
                · rfl
                · rfl
              refine hK.out _ _ ?_
              clear hK K
              refine norm_ (a' := ?_) ?_ ?_
              rotate_left
              · show Act.put _ (some 108) _ = _
                simp only [Act.put, List.setIfInBounds_toArray, List.set_cons_zero, List.set_cons_succ, i64_w, i32_w]
                rfl
              refine last_ (i := 10) (N := some 109) #[true, true, true, true, true, true, true, true, true, true, true, false] rfl rfl (by kernel_rfl) (by decide) (fun K hK => ?_)
              refine append_arm (by rfl) rfl (.tmp 99) (.tmp 108) 34 rfl (by rfl) (by rfl) (HR9.out.alloc _) (hok9.alloc _) Try.underlying34 hj hy0 hy1 hy2 rfl (by decide) [.int .i64 (jn : Int), .int .i64 ver] rfl (news_at (Go.Ng.heap_alloc_at _ _)) (by simp [Value.oneCell']) (by decide) (by unfold maxLen; omega) (by omega) ?_
              intro g3 cap3 w10 T10 hrow hfr
              have HROW := Lib.hid hrow
              have HF10 := Lib.hid hfr
              clear hrow hfr
              refine hK.out _ _ ?_
              clear hK K
              refine norm_ (a' := ?_) ?_ ?_
              rotate_left
              · show Act.put _ (some 109) _ = _
                simp only [Act.put, List.setIfInBounds_toArray, List.set_cons_zero, List.set_cons_succ, i64_w, i32_w]
                rfl
              refine pure_ (i := 11) (N := some 16) (v := ?_) (a' := ?_) #[true, true, true, true, true, true, true, true, true, true, true, true] rfl rfl (by kernel_rfl) (fun _ _ _ h => h) (Or.inl ⟨by rfl, ?_⟩) ?_ ?_
              rotate_left
              · intro w'
                go_simp
                with_reducible rfl
              rotate_left
              · simp only [Act.put, List.setIfInBounds_toArray, List.set_cons_zero, List.set_cons_succ, i64_w, i32_w]
                rfl
              refine done_ (by kernel_rfl) ?_
              clear hHeld
              go_wp2_with fail
              go_roundw
              case rel =>
                refine ⟨j + 1, by omega, by go_num, _, _, L ++ [⟨(jn : Int), ver⟩], by rw [List.length_append]; rfl, Lib.hid ?_, T10, Lib.hid ?_, Lib.hid ((HG.out.trans (HF9.out.mono (fun _ h => h.elim))).trans ((Fr.alloc HF9.out.dom _).trans HF10.out))⟩
                · rw [HFY.out, HLL.out]
                · rw [List.length_append, claims_snoc]
                  exact HROW.out
              case measure => simp [intOf]; omega
            · have hfn := filtL_no g0 items.length hcx hsel
              have HFN := Lib.hid hfn
              clear hfn hcx
              have hq : decide ((0 : Int) ≤ ci) = false ∨ (decide ((0 : Int) ≤ ci) = true ∧ decide (ci < (items.length : Int)) = false) := by
                by_cases e : 0 ≤ ci
                · exact .inr ⟨decide_eq_true e, decide_eq_false (by omega)⟩
                · exact .inl (decide_eq_false e)
              clear hsel
              rcases hq with q1 | ⟨q1, q2⟩
              all_goals
                go_wp2_with fail
                go_roundw
                case rel => exact ⟨j + 1, by omega, by go_num, A2, cap2, L, rfl, Lib.hid (by rw [HFN.out, HLL.out]), Tk, Lib.hid (HR.out.alloc _), Lib.hid (HG.out.al _)⟩
                case measure => simp [intOf]; omega
          · have hje : j = cs.length := by omega
            subst hje
            have hLL := HLL.out
            rw [List.take_length] at hLL
            have HLQ := Lib.hid (HL8.out.frF HF.out)
            have hvers : ∀ c ∈ L, c.version = (g0.items c.item).hist.length := by rw [hLL]; exact filtL_ver g0 HG0.out _ _
            have hah := ahead_doP HA.out on hvers
            have hPP := p_propose (n := on) HLQ.out (by omega) (Row.rdX HR.out rfl)
            have hnpd := doP_np gm on L
            obtain ⟨res, hres⟩ : ∃ r, r = doP gm on L := ⟨_, rfl⟩
            rw [← hres] at hah hPP hnpd
            obtain ⟨rg, rn, rc, er⟩ := res
            simp only at hah hnpd
            have HAH := Lib.hid hah
            have HPP := Lib.hid hPP
            have HNPD := Lib.hid hnpd
            have q1 := HF.out.cellF n1
            obtain ⟨hA2, hA3⟩ : L.length ≤ cap2 ∧ cap2 ≤ maxLen := by
              obtain ⟨A', c', h1, h2, h3⟩ := HR.out.form
              injection h1 with _ _ h1
              subst h1
              exact ⟨h2, h3⟩
            unfold maxLen at hA3
            clear hLL hvers hah hPP hnpd hres
            by_cases her : er = 0
            · subst her
              go_wp2_with (
                go_at_call 55
                refine HPP.out.mono ?_
                rintro e w11 ⟨cv, rfl, hD⟩
                obtain ⟨T11, hL11, hcv, hF11⟩ := hD.did
                obtain ⟨A11, c11, rfl, _, _⟩ := hcv.slice
                have HL11 := Lib.hid hL11
                have HF11 := Lib.hid ((HF8.out.trans (HF.out.mono (fun _ h => h.elim))).trans (hF11.mono (fun t h => by omega)))
                clear hL11 hF11 hD hcv)
              go_roundw
              case rel =>
                refine ⟨m + 1, by omega, by go_num, bN + 1, rg, T11, by go_num, by omega, HAH, Lib.hid ?_, HL11, HF11⟩
                rcases HNPD.out with ⟨_, h⟩ | ⟨h, _⟩
                · rw [h, HNP.out]; omega
                · exact absurd rfl h
              case measure => simp [intOf]; omega
            · have i14 : (er == 0) = false := by simpa using her
              have HER := Lib.hid her
              clear her
              go_wp2_with (
                go_at_call 55
                refine HPP.out.mono ?_
                rintro e w11 ⟨cv, rfl, hD⟩
                obtain ⟨T11, hL11, hcv, hF11⟩ := hD.did
                obtain ⟨A11, c11, rfl, _, _⟩ := hcv.slice
                have HL11 := Lib.hid hL11
                have HF11 := Lib.hid ((HF8.out.trans (HF.out.mono (fun _ h => h.elim))).trans (hF11.mono (fun t h => by omega)))
                clear hL11 hF11 hD hcv)
              go_roundw
              case rel =>
                refine ⟨m + 1, by omega, by go_num, bN, rg, T11, rfl, by omega, HAH, Lib.hid ?_, HL11, HF11⟩
                rcases HNPD.out with ⟨h, _⟩ | ⟨_, h⟩
                · exact absurd h HER.out
                · rw [h, HNP.out]
              case measure => simp [intOf]; omega
      · have hmm : m = more.length := by omega
        subst hmm
        have m8 : wr.cell? ⟨w.heap.size, 1, none⟩ = some (.slice IA items.length icap) := HFr.out.cell m7 (by simp only [HT7.out, hnew]; omega)
        have HT8 := Lib.hid ((HFr.out.same w.heap.size (World.block_lt_of_cell? w7 _ m7)).trans HT7.out)
        have HCR8 := Lib.hid (HCR7.out.ext HCE7.out HFr.out (fun t h => by omega))
        have HCE8 := Lib.hid (HCE7.out.fr HFr.out)
        have HFW8 := Lib.hid (HFW7.out.trans (HFr.out.mono (S' := fun t => 1 ≤ t.1) (fun t h => by omega)))
        clear m7
        go_upto_region 28 with fail
        go_cut [139] (fun s wx => s = .bool false ∧ ∃ (g4 : G) (T4 : Nat → Tag), Hid (Ahead g0 g4) ∧ Hid (g4.fl = []) ∧ Hid (LiveP T4 100 wx p g4 (80 + more.length)) ∧ Hid (Fr (fun t => 100 ≤ t.1 ∧ t.1 ≤ 133) Tr T4 wr wx))
        case first =>
          have hcal := calm_ok choices HLr.out (by omega) HCR8.out HCE8.out (by omega)
          have HCAL := Lib.hid hcal
          clear hcal
          by_cases hb0 : 0 < bN
          · have i1 : decide ((0 : Int) < (bN : Int)) = true := decide_eq_true (by omega)
            have HB := Lib.hid hb0
            clear hb0
            go_wp2_with (first
            | (
              go_at_call 37
              refine HCAL.out.mono ?_
              rintro e w9 ⟨rfl, mc2, T9, hfl, hmc, hL9, hF9⟩
              have hah := ahead_calm HA.out HG0.out HST.out choices mc2
              have hnp9 := (calmN_n choices gm mc2).2.1
              generalize (calmN choices gm mc2).1 = g4 at hfl hL9 hah hnp9
              have hmore := hah.some HG0.out HST.out (still_of hfl) (by rw [hnp9, HNP.out]; have := HB.out; omega)
              have HMORE := Lib.hid hmore
              have HA9 := Lib.hid hah
              have HFL9 := Lib.hid hfl
              have HL9 := Lib.hid hL9
              have HF9 := Lib.hid hF9
              clear hL9 hfl hF9 hmc hah hnp9 hmore)
            | (
              go_at_call 56
              refine (p_decided (302, 0, 0) HL9.out (by omega)).mono ?_
              rintro e w10 ⟨v10, rfl, T10, hrow, hF10⟩
              obtain ⟨A10, c10, rfl, _, _⟩ := hrow.form
              have i2 : decide ((g4.dec.length : Int) ≤ (g0.dec.length : Int)) = false := decide_eq_false (by have := HMORE.out; omega)
              have i3 : decide (g4.dec.length ≤ g0.dec.length) = false := decide_eq_false (by have := HMORE.out; omega)
              have HL10 := Lib.hid (HL9.out.frF hF10)
              have HF10 := Lib.hid (HF9.out.trans (hF10.mono (fun _ h => h.elim)))
              clear hrow hF10))
            all_goals
              go_meet
              case rel => exact ⟨rfl, g4, T10, HA9, HFL9, HL10, HF10⟩
          · have i1 : decide ((0 : Int) < (bN : Int)) = false := decide_eq_false (by omega)
            have i2 : decide (0 < bN) = false := decide_eq_false (by omega)
            clear hb0
            go_wp2_with (
              go_at_call 37
              refine HCAL.out.mono ?_
              rintro e w9 ⟨rfl, mc2, T9, hfl, hmc, hL9, hF9⟩
              have hah := ahead_calm HA.out HG0.out HST.out choices mc2
              generalize (calmN choices gm mc2).1 = g4 at hfl hL9 hah
              have HA9 := Lib.hid hah
              have HFL9 := Lib.hid hfl
              have HL9 := Lib.hid hL9
              have HF9 := Lib.hid hF9
              clear hL9 hfl hF9 hmc hah)
            all_goals
              go_meet
              case rel => exact ⟨rfl, g4, T9, HA9, HFL9, HL9, HF9⟩
        case rest =>
        obtain ⟨rfl, g4, T9, HA9, HFL9, HL9, HF9⟩ := hcut
        have m9 : wc.cell? ⟨w.heap.size, 1, none⟩ = some (.slice IA items.length icap) := HF9.out.cell m8 (by simp only [HT8.out, hnew]; omega)
        have HN4 : Hid (g4.n = items.length) := Lib.hid (HA9.out.n.trans HN.out)
        have HFW9 := Lib.hid (HFW8.out.trans (HF9.out.mono (S' := fun t => 1 ≤ t.1) (fun t h => by omega)))
        obtain ⟨M3, hM3⟩ := tag_max T9 wc.heap.size
        have hPV := p_versions HL9.out (600, 0, M3) (fun b hb e => by have := hM3 b hb; rw [e] at this; simp at this) (.inr (show 132 < 600 by decide)) (show 600 ≠ 0 by decide)
        rw [HN4.out] at hPV
        have HPV2 := Lib.hid hPV
        clear hPV hM3 m8
        go_upto_region 31 with (
          go_at_call 53
          refine HPV2.out.mono ?_
          rintro e w10 ⟨v10, rfl, T10, hrow, hF10⟩
          obtain ⟨A10, c10, rfl, y5, y6⟩ := hrow.form
          unfold maxLen at y6
          have HV10 := Lib.hid hrow
          have HL10 := Lib.hid (HL9.out.frF hF10)
          have HFW10 := Lib.hid (HFW9.out.trans (hF10.mono (fun _ h => h.elim)))
          clear hrow hF10)
        obtain ⟨w11, hw11⟩ : ∃ w11, w11 = w10.alloc (.cells #[.slice A10 items.length c10] 22) := ⟨_, rfl⟩
        obtain ⟨bt, hbt⟩ : ∃ bt, bt = w10.heap.size := ⟨_, rfl⟩
        have hF11 : Fr (fun _ => False) T10 T10 w10 w11 := by rw [hw11]; exact Fr.alloc HFW10.out.dom _
        have n0 : w11.cell? ⟨bt, 0, none⟩ = some (.slice A10 items.length c10) := by rw [hw11, hbt]; go_simp
        have HBT : Hid ((T10 bt).1 = 0) := Lib.hid (by rw [hbt]; exact HFW10.out.dom.new)
        rw [← hw11, ← hbt]
        have HV11 := Lib.hid (HV10.out.fr hF11 (fun x => x))
        have HL11 := Lib.hid (HL10.out.frF hF11)
        have HFW11 := Lib.hid (HFW10.out.trans (hF11.mono (fun _ h => h.elim)))
        have hnp4 : g4.np ≤ 100 := by have := HL11.out.np; omega
        clear hw11 hbt hF11
        go_wp2_with (
          go_at_call 48
          refine (p_proposals 401 HL11.out (by omega) (by omega)).mono ?_
          rintro e w12 ⟨v12, vs2, rfl, T12, hrow, hcl, hF12⟩
          obtain ⟨A12, c12, rfl, z3, z4⟩ := hrow.form
          unfold maxLen at z4
          have n2 : w12.cell? ⟨bt, 0, none⟩ = some (.slice A10 items.length c10) := hF12.cell n0 (by simp only [HBT.out]; omega)
          have HV12 := Lib.hid (HV11.out.fr hF12 (by simp))
          have HL12 := Lib.hid (HL11.out.fr hF12 (fun t h => by omega))
          have HFW12 := Lib.hid (HFW11.out.trans (hF12.mono (fun t h => by omega)))
          have HR12 := Lib.hid hrow
          have HC12 := Lib.hid hcl
          clear hrow hcl hF12)
        go_loopw [153] (fun i wq => ∃ n : Nat, n ≤ g4.np ∧ i = .int .i64 n ∧ Hid (Fr (fun _ => False) T12 T12 w12 wq)) (fun i _ => g4.np - (intOf i).toNat)
        case atStart => exact ⟨0, Nat.zero_le _, rfl, Lib.hid (Fr.refl HFW12.out.dom)⟩
        case round =>
          obtain ⟨n, hn, rfl, HFq⟩ := hrel
          by_cases hlt : n < g4.np
          · obtain ⟨u, hu, hru⟩ := HC12.out n hlt
            have hcr := hru.frF HFq.out
            obtain ⟨b4, rfl, _, _, hcell4⟩ := (HR12.out.fr HFq.out (fun x => x)).cell rfl (j := n) (List.getElem?_eq_some_iff.1 hu).1
            have e1 : wr.cell? ⟨b4, n, none⟩ = some u := by rw [hcell4, hu]
            have hcl64 := HL12.out.good.inv.len n
            have hcr2 : ∀ c ∈ (g4.props n).claims, 0 ≤ c.item ∧ c.item < items.length := fun c hc => by have := claims_rng HL12.out.good hc; rw [HN4.out] at this; exact ⟨this.2.2.1, this.2.2.2⟩
            have href : g0.np ≤ n → (g4.props n).st = 3 → ∃ c ∈ (g4.props n).claims, badV (versG g4 items.length) c := fun h1 h2 => by
              obtain ⟨c, hc, hv⟩ := HA9.out.refused (p := n) (by omega) h2
              obtain ⟨h3, h4⟩ := hcr2 c hc
              refine ⟨c, hc, (g4.items c.item).ver, ?_, hv⟩
              rw [versG_get g4 (by omega)]
              rw [Int.toNat_of_nonneg h3]
            obtain ⟨cs, hcs⟩ : ∃ cs, cs = (g4.props n).claims := ⟨_, rfl⟩
            obtain ⟨st, hst⟩ : ∃ st, st = (g4.props n).st := ⟨_, rfl⟩
            rw [← hcs] at hcr hcl64 hcr2 href
            rw [← hst] at href
            obtain ⟨UA, ucap, rfl, u1, u2⟩ := hcr.slice
            unfold maxLen at u2
            have HCR := Lib.hid hcr
            have HCC := Lib.hid hcr2
            have HREF := Lib.hid href
            have HSS := Lib.hid hst
            have i7 : (0 : Int) ≤ (n : Int) := by omega
            have i8 : (n : Int) < (g4.np : Int) := by omega
            have hq : (decide ((g0.np : Int) ≤ (n : Int)) = false ∧ decide (g0.np ≤ n) = false) ∨ ((decide ((g0.np : Int) ≤ (n : Int)) = true ∧ decide (g0.np ≤ n) = true) ∧ (st == 3) = false) ∨ ((decide ((g0.np : Int) ≤ (n : Int)) = true ∧ decide (g0.np ≤ n) = true) ∧ (st == 3) = true) := by
              by_cases e : g0.np ≤ n
              · have d1 : decide ((g0.np : Int) ≤ (n : Int)) = true := decide_eq_true (by omega)
                have d2 : decide (g0.np ≤ n) = true := decide_eq_true e
                cases e2 : (st == 3)
                · exact .inr (.inl ⟨⟨d1, d2⟩, rfl⟩)
                · exact .inr (.inr ⟨⟨d1, d2⟩, rfl⟩)
              · exact .inl ⟨decide_eq_false (by omega), decide_eq_false e⟩
            clear hu hru hcr hcell4 hcs hst href hcr2
            rcases hq with ⟨q1, q2⟩ | ⟨⟨q1, q2⟩, q3⟩ | ⟨⟨q1, q2⟩, q3⟩
            · go_wp2_with (
                go_at_call 38
                refine (p_status (n := n) (HL12.out.frF HFq.out) hlt).mono ?_
                rw [← HSS.out]
                rintro e w13 ⟨rfl, hF13⟩
                have HF13 := Lib.hid (HFq.out.trans hF13)
                clear hF13)
              go_roundw
              case rel => exact ⟨n + 1, by omega, by go_num, HF13⟩
              case measure => simp [intOf]; omega
            · go_wp2_with (
                go_at_call 38
                refine (p_status (n := n) (HL12.out.frF HFq.out) hlt).mono ?_
                rw [← HSS.out]
                rintro e w13 ⟨rfl, hF13⟩
                have HF13 := Lib.hid (HFq.out.trans hF13)
                clear hF13)
              go_roundw
              case rel => exact ⟨n + 1, by omega, by go_num, HF13⟩
              case measure => simp [intOf]; omega
            · have HBAD := Lib.hid (HREF.out (of_decide_eq_true q2) (by simpa using q3))
              go_wp2_with (first
              | (
                go_at_call 38
                refine (p_status (n := n) (HL12.out.frF HFq.out) hlt).mono ?_
                rw [← HSS.out]
                rintro e w13 ⟨rfl, hF13⟩
                have HF13 := Lib.hid (HFq.out.trans hF13)
                have HCR13 := Lib.hid (HCR.out.frF hF13)
                clear hF13)
              | (
                go_at_call 35
                refine (stale_ok bt (HF13.out.cellF n2) (World.block_lt_of_cell? _ _ (HF13.out.cellF n2)) (HV12.out.fr HF13.out (fun x => x)) HCR13.out (by omega) HCC.out HBAD.out HF13.out.dom).mono ?_
                rintro e w14 ⟨rfl, hF14⟩
                have HF14 := Lib.hid (HF13.out.trans hF14)
                clear hF14))
              go_roundw
              case rel => exact ⟨n + 1, by omega, by go_num, HF14⟩
              case measure => simp [intOf]; omega
          · have hnn : n = g4.np := by omega
            subst hnn
            go_wp2_with fail
            go_ret
            exact ⟨rfl, T12, HFW12.out.trans (HFq.out.mono (fun _ h => h.elim))⟩
end Go.Proofs.Ytclkokkppgchfaa

/- NegoApart: the walk. -/
namespace Go.Proofs.Ytclkokkppgchfaa
open Go.RowKit Go.Ng Go.Proofs.YtclkokkppgchfaaW.PrintLast
set_option linter.unusedSimpArgs false
set_option linter.unusedVariables false
theorem Try.info36 : (Try.prog.info? 36).map (fun i => (i.zero, i.size, i.bytes)) = some (some (.agg #[.int .i64 0, .int .i64 0, .slice none 0 0]), 3, 40) := by kernel_rfl
def addAll (us : List Int) (cs : List Clm) : List Int := cs.foldl (fun l c => addT c.item l) us
theorem mem_addAll {x : Int} : ∀ {cs : List Clm} {us : List Int}, x ∈ addAll us cs ↔ x ∈ us ∨ ∃ c ∈ cs, c.item = x
  | [], us => by simp [addAll]
  | c :: cs, us => by
    have ih := mem_addAll (x := x) (cs := cs) (us := addT c.item us)
    have e : addAll us (c :: cs) = addAll (addT c.item us) cs := rfl
    rw [e, ih]
    have : x ∈ addT c.item us ↔ x = c.item ∨ x ∈ us := by
      unfold addT; split
      · constructor
        · exact .inr
        · rintro (rfl | h) <;> assumption
      · simp [or_comm]
    rw [this]
    simp only [List.mem_cons, exists_eq_or_imp]
    constructor
    · rintro ((h | h) | h)
      · exact .inr (.inl h.symm)
      · exact .inl h
      · exact .inr (.inr h)
    · rintro (h | h | h)
      · exact .inl (.inr h)
      · exact .inl (.inl h.symm)
      · exact .inr h
theorem addAll_take (us : List Int) {cs : List Clm} {j : Nat} {c : Clm} (hc : cs[j]? = some c) : addAll us (cs.take (j + 1)) = addT c.item (addAll us (cs.take j)) := by
  obtain ⟨hj, he⟩ := List.getElem?_eq_some_iff.1 hc
  rw [List.take_succ_eq_append_getElem hj, he, addAll, addAll, List.foldl_append]
  rfl
theorem doP_ok {g : G} {n : Int} {l : List Clm} (h : (doP g n l).2.2.2 = 0) : 0 ≤ n ∧ n < g.places ∧ claimedB g.n l = true ∧ ∃ c, l[0]? = some c ∧ doP g n l = (g.proposeG n l c, (g.np : Int), ([] : List Came), (0 : Int)) := by
  unfold doP at h ⊢
  split at h
  · simp at h
  · rename_i h1
    split at h
    · simp at h
    · rename_i h2
      have h2' : claimedB g.n l = true := by simpa using h2
      obtain ⟨c, hc⟩ := claimed_head h2'
      refine ⟨by omega, by omega, h2', c, hc, ?_⟩
      rw [if_neg h1, if_neg h2, hc]
/-- What was proposed so far. -/
structure Picked (g : G) (places n : Nat) (xs : List (OpM × Value)) (us : List Int) : Prop where
  apart : Apart g
  gn : g.n = n
  pl : g.places = places
  len : xs.length = g.np
  cl : ∀ (i : Nat) x, xs[i]? = some x → x.1.kind = 0 ∧ 0 ≤ x.1.n ∧ x.1.n < places ∧ claimedB n x.1.claims = true ∧ x.1.claims = (g.props i).claims
  us : ∀ p : Int, ∀ c ∈ (g.props p).claims, c.item ∈ us
theorem Picked.add {g : G} {places n : Nat} {xs : List (OpM × Value)} {us : List Int} (P : Picked g places n xs us) {on : Int} {cs : List Clm} {u : Value} (hd : cs.any (usedI us) = false) (he : (doP g on cs).2.2.2 = 0) :
    Picked (doP g on cs).1 places n (xs ++ [(⟨0, on, cs⟩, u)]) (addAll us cs) := by
  obtain ⟨h0, h1, h2, c, hc, hdo⟩ := doP_ok he
  have hdis : ∀ p : Int, ∀ d ∈ (g.props p).claims, ∀ c ∈ cs, d.item ≠ c.item := by
    intro p d hd' c hc e
    rw [List.any_eq_false] at hd
    have := hd c hc
    simp only [usedI, decide_eq_true_eq] at this
    exact this (e ▸ P.us p d hd')
  have hA := apart_doP P.apart on hdis
  rw [hdo] at hA ⊢
  have hp : ∀ p, p ≠ (g.np : Int) → (g.proposeG on cs c).props p = g.props p := fun p e => by simp [G.proposeG, G.setP, e]
  have hq : (g.proposeG on cs c).props g.np = ⟨cs, 1, 0⟩ := by simp [G.proposeG, G.setP]
  refine ⟨hA, P.gn, P.pl, ?_, ?_, ?_⟩
  · rw [List.length_append, P.len]; rfl
  · intro i x hx
    by_cases e : i < xs.length
    · rw [List.getElem?_append_left e] at hx
      have := P.cl i x hx
      show _ ∧ _ ∧ _ ∧ _ ∧ x.1.claims = ((g.proposeG on cs c).props i).claims
      rw [hp i (by have := P.len; omega)]
      exact this
    · rw [List.getElem?_append_right (by omega)] at hx
      have hi : i = xs.length := by
        by_cases e' : i - xs.length = 0
        · omega
        · rw [List.getElem?_eq_none (by simp; omega)] at hx; cases hx
      subst hi
      simp at hx
      subst hx
      refine ⟨rfl, h0, by have := P.pl; simp only; omega, by rw [← P.gn]; exact h2, ?_⟩
      show cs = ((g.proposeG on cs c).props (xs.length : Int)).claims
      rw [P.len, hq]
  · intro p d hd'
    by_cases e : p = (g.np : Int)
    · subst e
      change d ∈ ((g.proposeG on cs c).props g.np).claims at hd'
      rw [hq] at hd'
      exact mem_addAll.2 (.inr ⟨d, hd', rfl⟩)
    · change d ∈ ((g.proposeG on cs c).props p).claims at hd'
      rw [hp p e] at hd'
      exact mem_addAll.2 (.inl (P.us p d hd'))
theorem alone_run (pl : Nat) (items : List Int) {n : Int} {cs : List Clm} (h0 : 0 ≤ n) (h1 : n < pl) (hc : claimedB items.length cs = true) :
    ∃ c, doP (beginG pl items) n cs = ((beginG pl items).proposeG n cs c, (0 : Int), ([] : List Came), (0 : Int)) ∧ Apart ((beginG pl items).proposeG n cs c) ∧ (((beginG pl items).proposeG n cs c).props 0).claims = cs ∧ ((beginG pl items).proposeG n cs c).np = 1 := by
  obtain ⟨c, hc0⟩ := claimed_head hc
  have hd : doP (beginG pl items) n cs = ((beginG pl items).proposeG n cs c, (0 : Int), ([] : List Came), (0 : Int)) := by
    rw [doP, if_neg (by show ¬ (n < 0 ∨ (pl : Int) ≤ n); omega), if_neg (by show ¬ claimedB items.length cs = false; rw [hc]; decide), hc0]
    rfl
  have hA := apart_doP (apart_begin pl items) n (l := cs) (fun p d hd => by simp [beginG] at hd)
  rw [hd] at hA
  exact ⟨c, hd, hA, by simp [G.proposeG, G.setP, beginG], rfl⟩
theorem doG_zero (g : G) (n : Int) (cs : List Clm) : doG g ⟨0, n, cs⟩ = doP g n cs := if_pos rfl
set_option pp.deepTerms true
set_option pp.maxSteps 1000000
set_option maxRecDepth 100000 in
set_option maxHeartbeats 12800000 in
theorem negoApart_ok {tag : Nat → Tag} {w : World} {vi vo vc : Value} {places : Int} {items choices : List Int} {l : List OpM} (hi : Rd 1 w vi items.length (ints items)) (hie : Ext tag w vi) (ho : OpsRd tag w vo l) (hc : Rd 1 w vc choices.length (ints choices)) (hce : Ext tag w vc) (hok : TagOk tag w) :
    Calls Try.prog 5 #[.int .i64 places, vi, vo, vc] w fun e w' => e = .returned (.bool true) ∧ ∃ tag', Fr (fun t => 1 ≤ t.1) tag tag' w w' := by
  have HS := fun {tag : Nat → Tag} {w : World} => @sane_ok tag w 1
  obtain ⟨IA, icap, rfl, q1, q2⟩ := hi.slice
  obtain ⟨LA, lcap, rfl, q3, q4⟩ := ho.slice
  obtain ⟨CA, ccap, rfl, q5, q6⟩ := hc.slice
  unfold maxLen at q2 q4 q6
  have HI := Lib.hid hi
  have HIE := Lib.hid hie
  have HO := Lib.hid ho
  have HC := Lib.hid hc
  have HCE := Lib.hid hce
  clear hi hie ho hc hce
  obtain ⟨bad, hbad⟩ : ∃ b : Bool, b = (!fewB items.length l || decide (20 < (l.length : Int)) || decide (2000 < (choices.length : Int))) := ⟨_, rfl⟩
  go_enter Try.func5, Try.ntmps5
  go_upto_region 3 with (
      go_at_call 16
      refine (HS hok (by omega)).mono ?_
      rintro e w1 ⟨rfl, T1, hF1, hok1⟩
      have HI1 := Lib.hid (HI.out.ext HIE.out hF1 (fun t h => by omega))
      have HIE1 := Lib.hid (HIE.out.fr hF1)
      have HO1 := Lib.hid (HO.out.fr hF1 (fun t h => by omega))
      have HC1 := Lib.hid (HC.out.ext HCE.out hF1 (fun t h => by omega))
      have HCE1 := Lib.hid (HCE.out.fr hF1)
      have HF1 := Lib.hid (hF1.mono (S' := fun t => 1 ≤ t.1) (fun t h => by omega))
      clear hF1)
  have HFW := Lib.hid (few_ok HI1.out HO1.out HF1.out.dom)
  go_cut [47] (fun s wx => s = .bool bad ∧ Hid (Fr (fun _ => False) T1 T1 w1 wx))
  case first =>
    go_wp2_with (
      go_at_call 17
      refine HFW.out.mono ?_
      rintro e w3 ⟨rfl, hF3⟩
      have HF3 := Lib.hid hF3
      clear hF3)
    all_goals
      go_meet
      case rel => exact ⟨by rw [hbad]; (try simp [*]), HF3⟩
  case rest =>
  obtain ⟨rfl, HFx⟩ := hcut
  cases bad
  case true =>
    clear hbad
    go_wp2_with fail
    go_ret
    exact ⟨rfl, T1, HF1.out.trans (HFx.out.mono (fun _ h => h.elim))⟩
  case false =>
  obtain ⟨hb1, hb2, hb3⟩ : choices.length ≤ 2000 ∧ l.length ≤ 20 ∧ fewB items.length l = true := by
    have := hbad.symm
    simp only [Bool.or_eq_false_iff, decide_eq_false_iff_not, Bool.not_eq_false', Int.not_lt] at this
    exact ⟨by omega, by omega, this.1.1⟩
  have HFEW := Lib.hid hb3
  clear hbad hb3
  have HIc := Lib.hid (HI1.out.frF HFx.out)
  have HIEc := Lib.hid (HIE1.out.fr HFx.out)
  have HOc := Lib.hid (HO1.out.fr HFx.out (fun _ h => h.elim))
  have HCc := Lib.hid (HC1.out.frF HFx.out)
  have HCEc := Lib.hid (HCE1.out.fr HFx.out)
  have HFc := Lib.hid (HF1.out.trans (HFx.out.mono (S' := fun t => 1 ≤ t.1) (fun _ h => h.elim)))
  by_cases hv : places < 1 ∨ 32 < places ∨ rightB items places = false
  · have HV := Lib.hid hv
    clear hv
    go_wp2_with (
      go_at_call 30
      refine (rnew_bad places items HIc.out HV.out).mono ?_
      rintro e w' ⟨rfl, hw⟩
      replace hw := hw.symm
      subst hw)
    go_ret
    exact ⟨rfl, T1, HFc.out⟩
  · obtain ⟨hp1, hp2, hright⟩ : 1 ≤ places ∧ places ≤ 32 ∧ rightB items places = true := by
      simp only [not_or, Bool.not_eq_false, Int.not_lt] at hv
      exact hv
    clear hv
    obtain ⟨pl, rfl⟩ : ∃ pl : Nat, places = pl := ⟨places.toNat, by omega⟩
    have HRG := Lib.hid hright
    have hpl1 : 1 ≤ pl := by omega
    have hpl2 : pl ≤ 32 := by omega
    clear hright hp1 hp2
    have hmk : ∀ W, (Instr.makeMap 66 none).run Try.prog W = .ok (.map (some W.heap.size)) (W.alloc (.map #[] 0)) := mk66
    go_upto_region 12 with (first
    | (
      go_at_call 30
      refine (rnew_ok 140 pl items HIc.out HIEc.out HFc.out.dom (by omega) hpl1 hpl2 HRG.out).mono ?_
      rintro e w3 ⟨q, rfl, T3, Ps, yv, ys, _, _, _, _, hF3⟩
      have HI3 := Lib.hid (HIc.out.ext HIEc.out hF3 (fun t h => by omega))
      have HIE3 := Lib.hid (HIEc.out.fr hF3)
      have HO3 := Lib.hid (HOc.out.fr hF3 (fun t h => by omega))
      have HC3 := Lib.hid (HCc.out.ext HCEc.out hF3 (fun t h => by omega))
      have HCE3 := Lib.hid (HCEc.out.fr hF3)
      have HF3 := Lib.hid (HFc.out.trans (hF3.mono (fun t h => by omega)))
      clear hF3)
    | (
      go_at_call 29
      refine (p_new 100 pl items HI3.out HIE3.out HF3.out.dom (by omega) hpl1 hpl2 HRG.out).mono ?_
      rintro e w4 ⟨p, rfl, T4, hL4, hF4⟩
      have HL4 := Lib.hid hL4
      have HI4 := Lib.hid (HI3.out.ext HIE3.out hF4 (fun t h => by omega))
      have HIE4 := Lib.hid (HIE3.out.fr hF4)
      have HO4 := Lib.hid (HO3.out.fr hF4 (fun t h => by omega))
      have HC4 := Lib.hid (HC3.out.ext HCE3.out hF4 (fun t h => by omega))
      have HCE4 := Lib.hid (HCE3.out.fr hF4)
      have HF4 := Lib.hid (HF3.out.trans (hF4.mono (fun t h => by omega)))
      clear hF4 hL4))
    clear hmk
    obtain ⟨w6, hw6⟩ : ∃ w6, w6 = (w4.alloc (.map #[] 0)).alloc (.cells #[.map (some w4.heap.size)] 66) := ⟨_, rfl⟩
    obtain ⟨bm, hbm⟩ : ∃ bm, bm = w4.heap.size := ⟨_, rfl⟩
    obtain ⟨bc, hbc⟩ : ∃ bc, bc = w4.heap.size + 1 := ⟨_, rfl⟩
    obtain ⟨T6, hT6⟩ : ∃ T6, T6 = give T4 bm (700, 0, 0) := ⟨_, rfl⟩
    have hFa : Fr (fun _ => False) T4 T6 w4 (w4.alloc (.map #[] 0)) := by rw [hT6, hbm]; exact Fr.give_alloc HF4.out.dom _ _
    have hFb : Fr (fun _ => False) T6 T6 (w4.alloc (.map #[] 0)) w6 := by rw [hw6]; exact Fr.alloc hFa.dom _
    have hF6 := hFa.trans hFb
    have n0 : w6.cell? ⟨bc, 0, none⟩ = some (.map (some bm)) := by rw [hw6, hbc, hbm]; go_simp
    have hmap : MapIs w6 bm (([] : List Int).map fun n => (.int .i64 n, .bool true)) := ⟨#[], 0, hFb.heap (by rw [hbm]; exact Go.Ng.heap_alloc_at _ _) (fun x => x), rfl⟩
    have hbmt : T6 bm = (700, 0, 0) := by rw [hT6]; exact give_at _ _ _
    have hbct : (T6 bc).1 = 0 := by
      have := hFa.dom.new
      rw [hbc]
      simpa using this
    rw [← hw6, ← hbc, ← hbm]
    have HMP := Lib.hid hmap
    have HBM := Lib.hid hbmt
    have HBC := Lib.hid hbct
    have HL6 := Lib.hid (HL4.out.frF hF6)
    have HI6 := Lib.hid (HI4.out.frF hF6)
    have HIE6 := Lib.hid (HIE4.out.fr hF6)
    have HO6 := Lib.hid (HO4.out.fr hF6 (fun _ h => h.elim))
    have HC6 := Lib.hid (HC4.out.frF hF6)
    have HCE6 := Lib.hid (HCE4.out.fr hF6)
    have HF6 := Lib.hid (HF4.out.trans (hF6.mono (S' := fun t => 1 ≤ t.1) (fun _ h => h.elim)))
    have HBML := Lib.hid hmap.lt
    have HP0 : Hid (Picked (beginG pl items) pl items.length [] []) := Lib.hid ⟨apart_begin pl items, rfl, rfl, rfl, fun i x h => by simp at h, fun p c h => by simp [beginG] at h⟩
    clear hw6 hbm hbc hT6 hFa hFb hF6 hmap hbmt hbct
    go_wp2_with fail
    go_loopw [71, 14] (fun i bg wr => ∃ m : Nat, m ≤ l.length ∧ i = .int .i64 m ∧ ∃ (gm : G) (xs : List (OpM × Value)) (us : List Int) (Tr : Nat → Tag) (A2 : Option Addr) (cap2 : Nat), bg = .slice A2 xs.length cap2 ∧ xs.length ≤ m ∧ Hid (Picked gm pl items.length xs us) ∧ Hid (LiveP Tr 100 wr p gm m) ∧
      Hid (MapIs wr bm (us.map fun n => (.int .i64 n, .bool true))) ∧ Hid (Row Tr (750, 0, 0) 36 3 wr (.slice A2 xs.length cap2) xs.length (xs.flatMap opCells)) ∧ Hid (∀ x ∈ xs, RdX Tr wr x.2 x.1.claims) ∧
      Hid (Fr (fun t => (100 ≤ t.1 ∧ t.1 ≤ 132) ∨ t.1 = 700 ∨ t.1 = 750) T6 Tr w6 wr)) (fun i _ _ => l.length - (intOf i).toNat)
    case atStart => exact ⟨0, Nat.zero_le _, rfl, beginG pl items, [], [], T6, none, 0, rfl, Nat.le_refl _, HP0, HL6, HMP, Lib.hid (Row.nil _ _ _ _ _), Lib.hid (fun x h => by simp at h), Lib.hid (Fr.refl HF6.out.dom)⟩
    case round =>
      obtain ⟨m, hm, rfl, gm, xs, us, Tr, A2, cap2, rfl, hxm, HPK, HLr, HMr, HBr, HXr, HFr⟩ := hrel
      by_cases hmt : m < l.length
      · obtain ⟨⟨ok, on, cs⟩, hx⟩ : ∃ o, l[m]? = some o := ⟨_, List.getElem?_eq_getElem hmt⟩
        have hcs100 : cs.length ≤ 100 := few_claims HFEW.out (List.mem_of_getElem? hx)
        obtain ⟨ob, ooff, ocap', u, hov, o0, o1, o2, hxr⟩ := (HO6.out.fr HFr.out (fun t h => by omega)).get hx
        injection hov with hov _ hov2
        subst hov hov2
        simp only at o0 o1 o2 hxr
        obtain ⟨UA, ucap, rfl, u2⟩ := hxr.slice
        unfold maxLen at u2
        have HXO := Lib.hid hxr
        have i5 : (0 : Int) ≤ (m : Int) := by omega
        have i6 : (m : Int) < (l.length : Int) := by omega
        have hokr := HFr.out.dom
        have r0 : wr.cell? ⟨bc, 0, none⟩ = some (.map (some bm)) := HFr.out.cell n0 (by simp only [HBC.out]; omega)
        have hbmr : Tr bm = (700, 0, 0) := (HFr.out.same bm HBML.out).trans HBM.out
        obtain ⟨skip, hskip⟩ : ∃ b : Bool, b = ((ok != 0) || cs.any (usedI us)) := ⟨_, rfl⟩
        clear hx hxr
        go_upto_region 16 with fail
        obtain ⟨w8, hw8⟩ : ∃ w8, w8 = wr.alloc (.cells #[.int .i64 ok, .int .i64 on, .slice UA cs.length ucap] 36) := ⟨_, rfl⟩
        obtain ⟨bo, hbo⟩ : ∃ bo, bo = wr.heap.size := ⟨_, rfl⟩
        have hF8 : Fr (fun _ => False) Tr Tr wr w8 := by rw [hw8]; exact Fr.alloc hokr _
        have a0 : w8.cell? ⟨bo, 0, none⟩ = some (.int .i64 ok) := by rw [hw8, hbo]; go_simp
        have a1 : w8.cell? ⟨bo, 1, none⟩ = some (.int .i64 on) := by rw [hw8, hbo]; go_simp
        have a2 : w8.cell? ⟨bo, 2, none⟩ = some (.slice UA cs.length ucap) := by rw [hw8, hbo]; go_simp
        have hbot : (Tr bo).1 = 0 := by rw [hbo]; exact hokr.new
        have s0 : w8.cell? ⟨bc, 0, none⟩ = some (.map (some bm)) := hF8.cellF r0
        rw [← hw8, ← hbo]
        have HBO := Lib.hid hbot
        have HL8 := Lib.hid (HLr.out.frF hF8)
        have HX8 := Lib.hid (HXO.out.frF hF8)
        have HM8 := Lib.hid (HMr.out.fr hF8 (fun x => x))
        have HB8 := Lib.hid (HBr.out.fr hF8 (fun x => x))
        have HXS8 : Hid (∀ x ∈ xs, RdX Tr w8 x.2 x.1.claims) := Lib.hid (fun x h => (HXr.out x h).frF hF8)
        have HBR := Lib.hid hbmr
        have HF8 := Lib.hid (HFr.out.trans (hF8.mono (fun _ h => h.elim)))
        have HCL := Lib.hid (usedAny_ok bc s0 HM8.out HM8.out.lt HX8.out (by omega) HF8.out.dom)
        clear hw8 hbo hF8 o0 o1 o2 hokr r0 hbot hbmr
        go_cut [83] (fun s wx => s = .bool skip ∧ Hid (Fr (fun _ => False) Tr Tr w8 wx))
        case first =>
          go_wp2_with (
            go_at_call 35
            refine HCL.out.mono ?_
            rintro e w9 ⟨rfl, hF9⟩
            have HF9 := Lib.hid hF9
            clear hF9)
          all_goals
            go_meet
            case rel => exact ⟨by rw [hskip]; (try simp [*]), by first | exact HF9 | exact Lib.hid (Fr.refl HF8.out.dom)⟩
        case rest =>
        obtain ⟨rfl, HFy⟩ := hcut
        have HLy := Lib.hid (HL8.out.frF HFy.out)
        have HMy := Lib.hid (HM8.out.fr HFy.out (fun x => x))
        have HBy := Lib.hid (HB8.out.fr HFy.out (fun x => x))
        have HXy : Hid (∀ x ∈ xs, RdX Tr wc x.2 x.1.claims) := Lib.hid (fun x h => (HXS8.out x h).frF HFy.out)
        have HFF := Lib.hid (HF8.out.trans (HFy.out.mono (fun _ h => h.elim)))
        cases skip
        case true =>
          clear hskip
          go_wp2_with fail
          go_roundw
          case rel => exact ⟨m + 1, by omega, by go_num, gm, xs, us, Tr, A2, cap2, rfl, by omega, HPK, Lib.hid (HLy.out.more (Nat.le_succ m)), HMy, HBy, HXy, HFF⟩
          case measure => simp [intOf]; omega
        case false =>
        have hsk := hskip.symm
        simp only [Bool.or_eq_false_iff, bne_eq_false_iff_eq] at hsk
        obtain ⟨rfl, hany⟩ := hsk
        have HANY := Lib.hid hany
        have t0 := HFy.out.cellF a0
        have t1 := HFy.out.cellF a1
        have t2 := HFy.out.cellF a2
        have t3 := HFy.out.cellF s0
        have HXOy := Lib.hid (HX8.out.frF HFy.out)
        have hDO := p_do (⟨0, on, cs⟩ : OpM) HLy.out (by omega) HXOy.out
        rw [doG_zero] at hDO
        have hpk : (doP gm on cs).2.2.2 = 0 → Picked (doP gm on cs).1 pl items.length (xs ++ [(⟨0, on, cs⟩, .slice UA cs.length ucap)]) (addAll us cs) := fun he => HPK.out.add HANY.out he
        have hnp := doP_np gm on cs
        obtain ⟨res, hres⟩ : ∃ r, r = doP gm on cs := ⟨_, rfl⟩
        rw [← hres] at hDO hpk hnp
        obtain ⟨rg, rn, rc, er⟩ := res
        simp only at hDO hpk hnp
        have HDO := Lib.hid hDO
        have HPA := Lib.hid hpk
        have HNPD := Lib.hid hnp
        clear hskip hany hDO hpk hnp hres a0 a1 a2 s0
        by_cases her : er = 0
        · subst her
          obtain ⟨j0, hj, hy0, hy1, hy2⟩ := info_parts Try.info36
          go_wp2_with (first
          | (
            go_at_call 31
            refine HDO.out.mono ?_
            rintro e w11 ⟨cv, rfl, hD⟩
            obtain ⟨T11, hL11, hcv, hF11⟩ := hD.did
            obtain ⟨A11, c11, rfl, _, _⟩ := hcv.slice
            have e0 : w11.cell? ⟨bo, 0, none⟩ = some (.int .i64 0) := hF11.cell t0 (by simp only [HBO.out]; omega)
            have e1 : w11.cell? ⟨bo, 1, none⟩ = some (.int .i64 on) := hF11.cell t1 (by simp only [HBO.out]; omega)
            have e2 : w11.cell? ⟨bo, 2, none⟩ = some (.slice UA cs.length ucap) := hF11.cell t2 (by simp only [HBO.out]; omega)
            have HBOT : Hid (T11 bo = Tr bo) := Lib.hid (hF11.same bo (World.block_lt_of_cell? _ _ t0))
            have HL11 := Lib.hid hL11
            have HF11 := Lib.hid hF11
            have hok11 := hF11.dom
            have HB11 := Lib.hid (HBy.out.fr hF11 (by simp))
            clear hL11 hD hcv hF11)
          | (
            at_builtin
            refine append_list rfl (.tmp 93) (.tmp 95) 23 rfl (by rfl) (by rfl) (HB11.out.alloc _) (hok11.alloc _) Try.underlying23 hj hy0 hy1 hy2 rfl (by decide) [.int .i64 0, .int .i64 on, .slice UA cs.length ucap] rfl (news_at (Go.Ng.heap_alloc_at _ _)) (by simp [Value.oneCell']) (by decide) (by unfold maxLen; omega) (by omega) ?_
            intro g3 cap3 w12 T12 hrow hfr
            have hfr2 := (Fr.alloc (S := fun t => t = (750, 0, 0)) hok11 (.cells #[.int .i64 0, .int .i64 on, .slice UA cs.length ucap] 36)).trans hfr
            have x2 : w12.cell? ⟨bo, 2, none⟩ = some (.slice UA cs.length ucap) := hfr2.cell e2 (by rw [HBOT.out]; intro h; have := HBO.out; rw [h] at this; simp at this)
            have HROW := Lib.hid hrow
            have HFR := Lib.hid hfr2
            clear hrow hfr hfr2))
          have HF12 := Lib.hid ((HF11.out.mono (S' := fun t => (100 ≤ t.1 ∧ t.1 ≤ 132) ∨ t.1 = 700 ∨ t.1 = 750) (fun t h => .inl h)).trans (HFR.out.mono (fun t h => by subst h; exact .inr (.inr rfl))))
          have x3 : w12.cell? ⟨bc, 0, none⟩ = some (.map (some bm)) := by
            have h0 : (Tr bc).1 = 0 := by rw [HFF.out.same bc (World.block_lt_of_cell? _ _ n0)]; exact HBC.out
            exact HF12.out.cell t3 (by simp only [h0]; omega)
          have HM12 := Lib.hid ((HMy.out.fr HF11.out (by simp only [HBR.out]; omega)).fr HFR.out (by rw [HF11.out.same bm HMy.out.lt, HBR.out]; simp))
          have HBR12 : Hid (T12 bm = (700, 0, 0)) := Lib.hid ((HF12.out.same bm HMy.out.lt).trans HBR.out)
          have HXO12 := Lib.hid (HXOy.out.fr HF12.out (fun t h => by omega))
          have HBC12 : Hid ((T12 bc).1 = 0) := Lib.hid (by rw [HF12.out.same bc (World.block_lt_of_cell? _ _ t3), HFF.out.same bc (World.block_lt_of_cell? _ _ n0)]; exact HBC.out)
          clear hj hy0 hy1 hy2
          go_loopw [100] (fun i wq => ∃ j : Nat, j ≤ cs.length ∧ i = .int .i64 j ∧ Hid (MapIs wq bm ((addAll us (cs.take j)).map fun n => (.int .i64 n, .bool true))) ∧ Hid (Fr (fun t => t.1 = 700) T12 T12 w12 wq)) (fun i _ => cs.length - (intOf i).toNat)
          case atStart => exact ⟨0, Nat.zero_le _, rfl, HM12, Lib.hid (Fr.refl HFR.out.dom)⟩
          case round =>
            obtain ⟨j, hjj, rfl, HMk, HFk⟩ := hrel
            by_cases hjt : j < cs.length
            · obtain ⟨⟨ci, cv⟩, hcx⟩ : ∃ c, cs[j]? = some c := ⟨_, List.getElem?_eq_getElem hjt⟩
              have hrd : Rd 2 wr (.slice UA cs.length ucap) cs.length (claims cs) := by
                rcases HXO12.out.fr HFk.out (fun t h => by omega) with h | ⟨h, _⟩
                · exact h.1
                · rw [h] at hjt; simp at hjt
              obtain ⟨cb, coff, ccap', he, _, _, hac⟩ := Rd.elem (enc := Clm.cells) hrd (fun _ => rfl) (by decide) hcx
              injection he with he _ he2
              subst he he2
              have f0 : wr.cell? ⟨cb, coff + j * 2, none⟩ = some (.int .i64 ci) := hac 0 _ rfl
              have f1 : wr.cell? ⟨cb, coff + j * 2 + 1, none⟩ = some (.int .i64 cv) := hac 1 _ rfl
              have c0 : wr.cell? ⟨bc, 0, none⟩ = some (.map (some bm)) := HFk.out.cell x3 (by simp only [HBC12.out]; omega)
              have hokk := HFk.out.dom
              have hFa : Fr (fun t => t.1 = 700) T12 T12 wr (wr.alloc (.cells #[.int .i64 ci, .int .i64 cv] 69)) := Fr.alloc hokk _
              have c1 : (wr.alloc (.cells #[.int .i64 ci, .int .i64 cv] 69)).cell? ⟨bc, 0, none⟩ = some (.map (some bm)) := (Fr.alloc (S := fun _ => False) hokk (.cells #[.int .i64 ci, .int .i64 cv] 69)).cellF c0
              have hma := HMk.out.fr (Fr.alloc (S := fun _ => False) hokk (.cells #[.int .i64 ci, .int .i64 cv] 69)) (fun x => x)
              obtain ⟨w13, hrun, ⟨o, ho⟩, hm13⟩ := MapIs.add (tag := T12) (tag' := T12) hma ci
              have hF13 : Fr (fun t => t.1 = 700) T12 T12 wr w13 := hFa.trans (by rw [ho]; exact Fr.setObj hFa.dom (by rw [HBR12.out]) o)
              have HAT := Lib.hid (addAll_take us hcx)
              have HM13 := Lib.hid hm13
              have HF13 := Lib.hid hF13
              have i7 : (0 : Int) ≤ (j : Int) := by omega
              have i9 : (j : Int) < (cs.length : Int) := by omega
              have HRUN := Lib.hid hrun
              clear hrd hac hcx hFa hma ho hm13 hF13 hokk hrun
              go_wp2_with (at_mapUpdate; refine put_list (T := 66) rfl rfl (.tmp 104) (.tmp 106) (.const (.bool true)) rfl (by rfl) (by rfl) (by rfl) HRUN.out ?_)
              go_roundw
              case rel => exact ⟨j + 1, by omega, by go_num, Lib.hid (by rw [HAT.out]; exact HM13.out), Lib.hid (HFk.out.trans HF13.out)⟩
              case measure => simp [intOf]; omega
            · have hje : j = cs.length := by omega
              subst hje
              have HMz : Hid (MapIs wr bm ((addAll us cs).map fun n => (.int .i64 n, .bool true))) := Lib.hid (by have := HMk.out; rw [List.take_length] at this; exact this)
              go_wp2_with fail
              go_roundw
              case rel =>
                have hF1 := HF12.out.trans (HFk.out.mono (fun t h => .inr (.inl h)))
                refine ⟨m + 1, by omega, by go_num, rg, xs ++ [(⟨0, on, cs⟩, .slice UA cs.length ucap)], addAll us cs, T12, some ⟨g3, 0, none⟩, cap3, by rw [List.length_append]; rfl, by rw [List.length_append]; simp; omega, Lib.hid (HPA.out trivial), Lib.hid ((HL11.out.fr HFR.out (fun t h => by subst h; right; decide)).fr HFk.out (fun t h => by omega)), HMz, Lib.hid ?_, Lib.hid (fun x hx => ?_), Lib.hid (HFF.out.trans hF1)⟩
                · rw [List.length_append, List.flatMap_append]
                  have := HROW.out.fr HFk.out (by simp)
                  simpa [opCells] using this
                · rcases List.mem_append.1 hx with hx | hx
                  · exact (HXy.out x hx).fr hF1 (fun t h => by omega)
                  · rw [List.mem_singleton.1 hx]
                    exact HXO12.out.fr HFk.out (fun t h => by omega)
              case measure => simp [intOf]; omega
        · have i14 : (er == 0) = false := by simpa using her
          have HER := Lib.hid her
          clear her
          go_wp2_with (
            go_at_call 31
            refine HDO.out.mono ?_
            rintro e w11 ⟨cv, rfl, hD⟩
            obtain ⟨T11, hL11, hcv, hF11⟩ := hD.did
            obtain ⟨A11, c11, rfl, _, _⟩ := hcv.slice
            have HL11 := Lib.hid hL11
            have HF11 := Lib.hid hF11
            clear hL11 hD hcv hF11)
          go_roundw
          case rel =>
            have hrg : rg = gm := by
              rcases HNPD.out with ⟨h, _⟩ | ⟨_, h⟩
              · exact absurd h HER.out
              · exact h
            have hF1 := HF11.out.mono (S' := fun t => (100 ≤ t.1 ∧ t.1 ≤ 132) ∨ t.1 = 700 ∨ t.1 = 750) (fun t h => .inl h)
            exact ⟨m + 1, by omega, by go_num, rg, xs, us, T11, A2, cap2, rfl, by omega, by rw [hrg]; exact HPK, HL11, Lib.hid (HMy.out.fr HF11.out (by simp only [HBR.out]; omega)), Lib.hid (HBy.out.fr HF11.out (by simp)), Lib.hid (fun x hx => (HXy.out x hx).fr hF1 (fun t h => by omega)), Lib.hid (HFF.out.trans hF1)⟩
          case measure => simp [intOf]; omega
      · have hmm : m = l.length := by omega
        subst hmm
        have HI8 := Lib.hid (HI6.out.ext HIE6.out HFr.out (fun t h => by omega))
        have HIE8 := Lib.hid (HIE6.out.fr HFr.out)
        have HC8 := Lib.hid (HC6.out.ext HCE6.out HFr.out (fun t h => by omega))
        have HCE8 := Lib.hid (HCE6.out.fr HFr.out)
        have HFW8 := Lib.hid (HF6.out.trans (HFr.out.mono (S' := fun t => 1 ≤ t.1) (fun t h => by omega)))
        obtain ⟨hA2, hA3⟩ : xs.length ≤ cap2 ∧ cap2 ≤ maxLen := by
          obtain ⟨A', c', h1, h2, h3⟩ := HBr.out.form
          injection h1 with _ _ h1
          subst h1
          exact ⟨h2, h3⟩
        unfold maxLen at hA3
        go_wp2_with (
          go_at_call 37
          refine (calm_ok choices HLr.out (by omega) HC8.out HCE8.out (by omega)).mono ?_
          rintro e w9 ⟨rfl, mc, T9, hfl, hmc, hL9, hF9⟩
          have hap := apart_calm HPK.out.apart choices mc
          have hcn := calmN_n choices gm mc
          generalize (calmN choices gm mc).1 = g4 at hfl hL9 hap hcn
          have HAP := Lib.hid hap
          have HCN := Lib.hid hcn
          have HST := Lib.hid (still_of hfl)
          have HL9 := Lib.hid hL9
          have HI9 := Lib.hid (HI8.out.ext HIE8.out hF9 (fun t h => by omega))
          have HIE9 := Lib.hid (HIE8.out.fr hF9)
          have HB9 := Lib.hid (HBr.out.fr hF9 (by simp))
          have HX9 : Hid (∀ x ∈ xs, RdX T9 w9 x.2 x.1.claims) := Lib.hid (fun x hx => (HXr.out x hx).fr hF9 (fun t h => by omega))
          have HFW9 := Lib.hid (HFW8.out.trans (hF9.mono (fun t h => by omega)))
          clear hfl hF9 hL9 hmc hap hcn)
        go_loopw [115] (fun i wq => ∃ n : Nat, n ≤ xs.length ∧ i = .int .i64 n ∧ ∃ Tq : Nat → Tag, Hid (Fr (fun t => 200 ≤ t.1 ∧ t.1 ≤ 240) T9 Tq w9 wq)) (fun i _ => xs.length - (intOf i).toNat)
        case atStart => exact ⟨0, Nat.zero_le _, rfl, T9, Lib.hid (Fr.refl HFW9.out.dom)⟩
        case round =>
          obtain ⟨n, hn, rfl, Tq, HFq⟩ := hrel
          by_cases hlt : n < xs.length
          · obtain ⟨⟨⟨ok, on, cs⟩, u⟩, hx⟩ : ∃ x, xs[n]? = some x := ⟨_, List.getElem?_eq_getElem hlt⟩
            obtain ⟨hk0, hn0, hn1, hcb, hcl⟩ := HPK.out.cl n _ hx
            simp only at hk0 hn0 hn1 hcb hcl
            subst hk0
            have hxu := (HX9.out _ (List.mem_of_getElem? hx)).fr HFq.out (fun t h => by omega)
            simp only at hxu
            obtain ⟨UA, ucap, rfl, u2⟩ := hxu.slice
            unfold maxLen at u2
            obtain ⟨rb, rfl, _, _, hce⟩ := Row.elem (enc := opCells) (HB9.out.fr HFq.out (by simp)) (fun _ => rfl) (by decide) hx
            have f0 : wr.cell? ⟨rb, n * 3, none⟩ = some (.int .i64 0) := hce 0 _ rfl
            have f1 : wr.cell? ⟨rb, n * 3 + 1, none⟩ = some (.int .i64 on) := hce 1 _ rfl
            have f2 : wr.cell? ⟨rb, n * 3 + 2, none⟩ = some (.slice UA cs.length ucap) := hce 2 _ rfl
            obtain ⟨c, hdo, hapm, hclm, hnpm⟩ := alone_run pl items hn0 hn1 hcb
            have hnp4 : n < g4.np := by rw [HCN.out.2.1, ← HPK.out.len]; exact hlt
            have hst4 : (g4.props n).st = aloneI cs := by
              rw [HAP.out.end_ HST.out (by omega) (by omega), HCN.out.2.2, ← hcl]
            have HDO := Lib.hid hdo
            have HAPM := Lib.hid hapm
            have HCLM := Lib.hid hclm
            have HNPM := Lib.hid hnpm
            have HNP4 := Lib.hid hnp4
            have HST4 := Lib.hid hst4
            have HXU := Lib.hid hxu
            obtain ⟨gp, hgp⟩ : ∃ x, x = (beginG pl items).proposeG on cs c := ⟨_, rfl⟩
            obtain ⟨al, hal⟩ : ∃ x, x = aloneI cs := ⟨_, rfl⟩
            rw [← hgp] at HDO HAPM HCLM HNPM
            rw [← hal] at HST4
            have HAL := Lib.hid hal
            have i5 : (0 : Int) ≤ (n : Int) := by omega
            have i6 : (n : Int) < (xs.length : Int) := by omega
            have hokq := HFq.out.dom
            clear hx hn0 hn1 hcb hcl hxu hce hdo hapm hclm hnpm hnp4 hst4 hgp hal
            go_upto_region 31 with fail
            obtain ⟨w10, hw10⟩ : ∃ w10, w10 = wr.alloc (.cells #[.int .i64 0, .int .i64 on, .slice UA cs.length ucap] 36) := ⟨_, rfl⟩
            obtain ⟨bo, hbo⟩ : ∃ bo, bo = wr.heap.size := ⟨_, rfl⟩
            have hF10 : Fr (fun _ => False) Tq Tq wr w10 := by rw [hw10]; exact Fr.alloc hokq _
            have a0 : w10.cell? ⟨bo, 0, none⟩ = some (.int .i64 0) := by rw [hw10, hbo]; go_simp
            have a1 : w10.cell? ⟨bo, 1, none⟩ = some (.int .i64 on) := by rw [hw10, hbo]; go_simp
            have a2 : w10.cell? ⟨bo, 2, none⟩ = some (.slice UA cs.length ucap) := by rw [hw10, hbo]; go_simp
            have hbot : (Tq bo).1 = 0 := by rw [hbo]; exact hokq.new
            rw [← hw10, ← hbo]
            have HBO := Lib.hid hbot
            have HXU10 := Lib.hid (HXU.out.frF hF10)
            have HFQ := Lib.hid (HFq.out.trans (hF10.mono (fun _ h => h.elim)))
            clear hw10 hbo hF10 f0 f1 f2 hbot hokq
            go_upto_region 38 with (first
            | (
              go_at_call 29
              refine (p_new 200 pl items (HI9.out.ext HIE9.out HFQ.out (fun t h => by omega)) (HIE9.out.fr HFQ.out) HFQ.out.dom (by omega) hpl1 hpl2 HRG.out).mono ?_
              rintro e w11 ⟨pm, rfl, T11, hL11, hF11⟩
              have b0 : w11.cell? ⟨bo, 0, none⟩ = some (.int .i64 0) := hF11.cell a0 (by simp only [HBO.out]; omega)
              have b1 : w11.cell? ⟨bo, 1, none⟩ = some (.int .i64 on) := hF11.cell a1 (by simp only [HBO.out]; omega)
              have b2 : w11.cell? ⟨bo, 2, none⟩ = some (.slice UA cs.length ucap) := hF11.cell a2 (by simp only [HBO.out]; omega)
              have HL11 := Lib.hid hL11
              have HXU11 := Lib.hid (HXU10.out.fr hF11 (fun t h => by omega))
              have HF11 := Lib.hid (HFQ.out.trans (hF11.mono (fun t h => by omega)))
              have hDM := p_do (⟨0, on, cs⟩ : OpM) HL11.out (by omega) HXU11.out
              rw [doG_zero, HDO.out] at hDM
              have HDM := Lib.hid hDM
              clear hL11 hF11 hDM)
            | (
              go_at_call 31
              refine HDM.out.mono ?_
              rintro e w12 ⟨cv, rfl, hD⟩
              obtain ⟨T12, hL12, hcv, hF12⟩ := hD.did
              obtain ⟨A12, c12, rfl, _, _⟩ := hcv.slice
              have HL12 := Lib.hid hL12
              have HF12 := Lib.hid (HF11.out.trans (hF12.mono (fun t h => by omega)))
              clear hL12 hD hcv hF12)
            | (
              go_at_call 37
              go_loud (refine (calm_ok [] HL12.out (by decide) (v := .slice none 0 0) ⟨rfl, by simp [ints], .inl ⟨rfl, rfl⟩⟩ (fun b off m cap h => by cases h) (by simp)).mono ?_)
              rintro e w13 ⟨rfl, mc2, T13, hfl, hmc, hL13, hF13⟩
              have hap := apart_calm HAPM.out [] mc2
              have hcn := calmN_n [] gp mc2
              have HNP1 : Hid (0 < (calmN [] gp mc2).1.np) := Lib.hid (by rw [hcn.2.1, HNPM.out]; decide)
              go_loud (have HSTM : Hid (((calmN [] gp mc2).1.props (0 : Nat)).st = al) := Lib.hid (by
                have := hap.end_ (still_of hfl) (p := (0 : Nat)) (by decide) (by have := HNP1.out; omega)
                rw [this, hcn.2.2, HAL.out]
                exact congrArg aloneI HCLM.out))
              have HL13 := Lib.hid hL13
              have HF13 := Lib.hid (HF12.out.trans (hF13.mono (fun t h => by omega)))
              clear hL13 hfl hF13 hmc hap hcn)
            | (
              go_at_call 38
              refine (p_status (n := n) (HL9.out.fr HF13.out (fun t h => by omega)) HNP4.out).mono ?_
              rw [HST4.out]
              rintro e w14 ⟨rfl, hF14⟩
              have HL14 := Lib.hid (HL13.out.frF hF14)
              have HF14 := Lib.hid (HF13.out.trans (hF14.mono (fun _ h => h.elim)))
              clear hF14))
            go_wp2_with (
              go_at_call 38
              refine (p_status (n := 0) HL14.out HNP1.out).mono ?_
              rw [HSTM.out]
              rintro e w15 ⟨rfl, hF15⟩
              have HF15 := Lib.hid (HF14.out.trans (hF15.mono (fun _ h => h.elim)))
              clear hF15)
            go_roundw
            case rel => exact ⟨n + 1, by omega, by go_num, T13, HF15⟩
            case measure => simp [intOf]; omega
          · have hnn : n = xs.length := by omega
            subst hnn
            go_wp2_with fail
            go_ret
            exact ⟨rfl, Tq, HFW9.out.trans (HFq.out.mono (fun t h => by omega))⟩
end Go.Proofs.Ytclkokkppgchfaa

/- A list of numbers, handed over. -/
namespace Go.Proofs.Ytclkokkppgchfaa
open Go.ChangeShapes Go.WideShapes Go.ChangeAt Go.RowKit Go.Joins Go.Deep Go.Ng
set_option linter.unusedVariables false
section
variable {H : Type} {enc : TypeId × Value → H} {w : World} {base base0 : Nat} {spare : Nat → Bool} {held : Bool}
set_option maxRecDepth 100000 in
theorem open_ints_arg {v : Value} {d : DataW H} {p : List MemPlace} (hv : Value.okWide Try.prog w .any base0 22 v) (h : DataW.Trod enc Try.prog w base spare held 22 v d p) : ∃ l : List Int, Rd 1 w v l.length (ints l) ∧ Ext tag0 w v := by
  obtain ⟨a, len, cap, rfl⟩ := okWide_slice Try.underlying22 hv
  obtain ⟨n, hn⟩ := h
  refine open_intsRd hn (base0 := base0) ?_
  simpa only [Value.okWide, Try.underlying22] using hv
end
end Go.Proofs.Ytclkokkppgchfaa

/- A list of things to do, handed over; a number. -/
namespace Go.Proofs.Ytclkokkppgchfaa
open Go.ChangeShapes Go.WideShapes Go.ChangeAt Go.RowKit Go.Joins Go.Deep Go.Ng
set_option linter.unusedVariables false
section
variable {H : Type} {enc : TypeId × Value → H} {w : World} {base base0 : Nat} {spare : Nat → Bool} {held : Bool}
set_option maxRecDepth 100000 in
theorem open_ops_arg {v : Value} {d : DataW H} {p : List MemPlace} (hv : Value.okWide Try.prog w .any base0 23 v) (h : DataW.Trod enc Try.prog w base spare held 23 v d p) : ∃ l : List OpM, OpsRd tag0 w v l := by
  obtain ⟨a, len, cap, rfl⟩ := okWide_slice Try.underlying23 hv
  obtain ⟨n, hn⟩ := h
  refine open_ops hn (base0 := base0) ?_
  simpa only [Value.okWide, Try.underlying23] using hv
set_option maxRecDepth 100000 in
theorem open_int_arg {v : Value} {d : DataW H} {p : List MemPlace} (hv : Value.okWide Try.prog w .any base0 3 v) (h : DataW.Trod enc Try.prog w base spare held 3 v d p) : ∃ n : Int, v = .int .i64 n := by
  obtain ⟨n, h1, _⟩ := open_int Try.underlying3 hv h
  exact ⟨n, h1⟩
end
end Go.Proofs.Ytclkokkppgchfaa
