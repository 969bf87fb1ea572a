/- A part of the proof: texts of this session, joined. -/
import Derived.Test.YtclkokkppgchfaaNegoEnoughOwn12
import Derived.Deep.DeepCutAuto
import Derived.Maps.Own
/- NegoApart: the walk. -/
namespace Go.Proofs.Ytclkokkppgchfaa
open Go.RowKit Go.Ng Go.Proofs.YtclkokkppgchfaaW.PrintLast
set_option linter.unusedSimpArgs false
set_option linter.unusedVariables false
theorem Try.info36 : (Try.prog.info? 36).map (fun i => (i.zero, i.size, i.bytes)) = some (some (.agg #[.int .i64 0, .int .i64 0, .slice none 0 0]), 3, 40) := by kernel_rfl
def addAll (us : List Int) (cs : List Clm) : List Int := cs.foldl (fun l c => addT c.item l) us
theorem mem_addAll {x : Int} : ∀ {cs : List Clm} {us : List Int}, x ∈ addAll us cs ↔ x ∈ us ∨ ∃ c ∈ cs, c.item = x
  | [], us => by simp [addAll]
  | c :: cs, us => by
    have ih := mem_addAll (x := x) (cs := cs) (us := addT c.item us)
    have e : addAll us (c :: cs) = addAll (addT c.item us) cs := rfl
    rw [e, ih]
    have : x ∈ addT c.item us ↔ x = c.item ∨ x ∈ us := by
      unfold addT; split
      · constructor
        · exact .inr
        · rintro (rfl | h) <;> assumption
      · simp [or_comm]
    rw [this]
    simp only [List.mem_cons, exists_eq_or_imp]
    constructor
    · rintro ((h | h) | h)
      · exact .inr (.inl h.symm)
      · exact .inl h
      · exact .inr (.inr h)
    · rintro (h | h | h)
      · exact .inl (.inr h)
      · exact .inl (.inl h.symm)
      · exact .inr h
theorem addAll_take (us : List Int) {cs : List Clm} {j : Nat} {c : Clm} (hc : cs[j]? = some c) : addAll us (cs.take (j + 1)) = addT c.item (addAll us (cs.take j)) := by
  obtain ⟨hj, he⟩ := List.getElem?_eq_some_iff.1 hc
  rw [List.take_succ_eq_append_getElem hj, he, addAll, addAll, List.foldl_append]
  rfl
theorem doP_ok {g : G} {n : Int} {l : List Clm} (h : (doP g n l).2.2.2 = 0) : 0 ≤ n ∧ n < g.places ∧ claimedB g.n l = true ∧ ∃ c, l[0]? = some c ∧ doP g n l = (g.proposeG n l c, (g.np : Int), ([] : List Came), (0 : Int)) := by
  unfold doP at h ⊢
  split at h
  · simp at h
  · rename_i h1
    split at h
    · simp at h
    · rename_i h2
      have h2' : claimedB g.n l = true := by simpa using h2
      obtain ⟨c, hc⟩ := claimed_head h2'
      refine ⟨by omega, by omega, h2', c, hc, ?_⟩
      rw [if_neg h1, if_neg h2, hc]
/-- What was proposed so far. -/
structure Picked (g : G) (places n : Nat) (xs : List (OpM × Value)) (us : List Int) : Prop where
  apart : Apart g
  gn : g.n = n
  pl : g.places = places
  len : xs.length = g.np
  cl : ∀ (i : Nat) x, xs[i]? = some x → x.1.kind = 0 ∧ 0 ≤ x.1.n ∧ x.1.n < places ∧ claimedB n x.1.claims = true ∧ x.1.claims = (g.props i).claims
  us : ∀ p : Int, ∀ c ∈ (g.props p).claims, c.item ∈ us
theorem Picked.add {g : G} {places n : Nat} {xs : List (OpM × Value)} {us : List Int} (P : Picked g places n xs us) {on : Int} {cs : List Clm} {u : Value} (hd : cs.any (usedI us) = false) (he : (doP g on cs).2.2.2 = 0) :
    Picked (doP g on cs).1 places n (xs ++ [(⟨0, on, cs⟩, u)]) (addAll us cs) := by
  obtain ⟨h0, h1, h2, c, hc, hdo⟩ := doP_ok he
  have hdis : ∀ p : Int, ∀ d ∈ (g.props p).claims, ∀ c ∈ cs, d.item ≠ c.item := by
    intro p d hd' c hc e
    rw [List.any_eq_false] at hd
    have := hd c hc
    simp only [usedI, decide_eq_true_eq] at this
    exact this (e ▸ P.us p d hd')
  have hA := apart_doP P.apart on hdis
  rw [hdo] at hA ⊢
  have hp : ∀ p, p ≠ (g.np : Int) → (g.proposeG on cs c).props p = g.props p := fun p e => by simp [G.proposeG, G.setP, e]
  have hq : (g.proposeG on cs c).props g.np = ⟨cs, 1, 0⟩ := by simp [G.proposeG, G.setP]
  refine ⟨hA, P.gn, P.pl, ?_, ?_, ?_⟩
  · rw [List.length_append, P.len]; rfl
  · intro i x hx
    by_cases e : i < xs.length
    · rw [List.getElem?_append_left e] at hx
      have := P.cl i x hx
      show _ ∧ _ ∧ _ ∧ _ ∧ x.1.claims = ((g.proposeG on cs c).props i).claims
      rw [hp i (by have := P.len; omega)]
      exact this
    · rw [List.getElem?_append_right (by omega)] at hx
      have hi : i = xs.length := by
        by_cases e' : i - xs.length = 0
        · omega
        · rw [List.getElem?_eq_none (by simp; omega)] at hx; cases hx
      subst hi
      simp at hx
      subst hx
      refine ⟨rfl, h0, by have := P.pl; simp only; omega, by rw [← P.gn]; exact h2, ?_⟩
      show cs = ((g.proposeG on cs c).props (xs.length : Int)).claims
      rw [P.len, hq]
  · intro p d hd'
    by_cases e : p = (g.np : Int)
    · subst e
      change d ∈ ((g.proposeG on cs c).props g.np).claims at hd'
      rw [hq] at hd'
      exact mem_addAll.2 (.inr ⟨d, hd', rfl⟩)
    · change d ∈ ((g.proposeG on cs c).props p).claims at hd'
      rw [hp p e] at hd'
      exact mem_addAll.2 (.inl (P.us p d hd'))
theorem alone_run (pl : Nat) (items : List Int) {n : Int} {cs : List Clm} (h0 : 0 ≤ n) (h1 : n < pl) (hc : claimedB items.length cs = true) :
    ∃ c, doP (beginG pl items) n cs = ((beginG pl items).proposeG n cs c, (0 : Int), ([] : List Came), (0 : Int)) ∧ Apart ((beginG pl items).proposeG n cs c) ∧ (((beginG pl items).proposeG n cs c).props 0).claims = cs ∧ ((beginG pl items).proposeG n cs c).np = 1 := by
  obtain ⟨c, hc0⟩ := claimed_head hc
  have hd : doP (beginG pl items) n cs = ((beginG pl items).proposeG n cs c, (0 : Int), ([] : List Came), (0 : Int)) := by
    rw [doP, if_neg (by show ¬ (n < 0 ∨ (pl : Int) ≤ n); omega), if_neg (by show ¬ claimedB items.length cs = false; rw [hc]; decide), hc0]
    rfl
  have hA := apart_doP (apart_begin pl items) n (l := cs) (fun p d hd => by simp [beginG] at hd)
  rw [hd] at hA
  exact ⟨c, hd, hA, by simp [G.proposeG, G.setP, beginG], rfl⟩
theorem doG_zero (g : G) (n : Int) (cs : List Clm) : doG g ⟨0, n, cs⟩ = doP g n cs := if_pos rfl
set_option pp.deepTerms true
set_option pp.maxSteps 1000000
set_option maxRecDepth 100000 in
set_option maxHeartbeats 12800000 in
theorem negoApart_ok {tag : Nat → Tag} {w : World} {vi vo vc : Value} {places : Int} {items choices : List Int} {l : List OpM} (hi : Rd 1 w vi items.length (ints items)) (hie : Ext tag w vi) (ho : OpsRd tag w vo l) (hc : Rd 1 w vc choices.length (ints choices)) (hce : Ext tag w vc) (hok : TagOk tag w) :
    Calls Try.prog 5 #[.int .i64 places, vi, vo, vc] w fun e w' => e = .returned (.bool true) ∧ ∃ tag', Fr (fun t => 1 ≤ t.1) tag tag' w w' := by
  have HS := fun {tag : Nat → Tag} {w : World} => @sane_ok tag w 1
  obtain ⟨IA, icap, rfl, q1, q2⟩ := hi.slice
  obtain ⟨LA, lcap, rfl, q3, q4⟩ := ho.slice
  obtain ⟨CA, ccap, rfl, q5, q6⟩ := hc.slice
  unfold maxLen at q2 q4 q6
  have HI := Lib.hid hi
  have HIE := Lib.hid hie
  have HO := Lib.hid ho
  have HC := Lib.hid hc
  have HCE := Lib.hid hce
  clear hi hie ho hc hce
  obtain ⟨bad, hbad⟩ : ∃ b : Bool, b = (!fewB items.length l || decide (20 < (l.length : Int)) || decide (2000 < (choices.length : Int))) := ⟨_, rfl⟩
  go_enter Try.func5, Try.ntmps5
  go_upto_region 3 with (
      go_at_call 16
      refine (HS hok (by omega)).mono ?_
      rintro e w1 ⟨rfl, T1, hF1, hok1⟩
      have HI1 := Lib.hid (HI.out.ext HIE.out hF1 (fun t h => by omega))
      have HIE1 := Lib.hid (HIE.out.fr hF1)
      have HO1 := Lib.hid (HO.out.fr hF1 (fun t h => by omega))
      have HC1 := Lib.hid (HC.out.ext HCE.out hF1 (fun t h => by omega))
      have HCE1 := Lib.hid (HCE.out.fr hF1)
      have HF1 := Lib.hid (hF1.mono (S' := fun t => 1 ≤ t.1) (fun t h => by omega))
      clear hF1)
  have HFW := Lib.hid (few_ok HI1.out HO1.out HF1.out.dom)
  go_cut [47] (fun s wx => s = .bool bad ∧ Hid (Fr (fun _ => False) T1 T1 w1 wx))
  case first =>
    go_wp2_with (
      go_at_call 17
      refine HFW.out.mono ?_
      rintro e w3 ⟨rfl, hF3⟩
      have HF3 := Lib.hid hF3
      clear hF3)
    all_goals
      go_meet
      case rel => exact ⟨by rw [hbad]; (try simp [*]), HF3⟩
  case rest =>
  obtain ⟨rfl, HFx⟩ := hcut
  cases bad
  case true =>
    clear hbad
    go_wp2_with fail
    go_ret
    exact ⟨rfl, T1, HF1.out.trans (HFx.out.mono (fun _ h => h.elim))⟩
  case false =>
  obtain ⟨hb1, hb2, hb3⟩ : choices.length ≤ 2000 ∧ l.length ≤ 20 ∧ fewB items.length l = true := by
    have := hbad.symm
    simp only [Bool.or_eq_false_iff, decide_eq_false_iff_not, Bool.not_eq_false', Int.not_lt] at this
    exact ⟨by omega, by omega, this.1.1⟩
  have HFEW := Lib.hid hb3
  clear hbad hb3
  have HIc := Lib.hid (HI1.out.frF HFx.out)
  have HIEc := Lib.hid (HIE1.out.fr HFx.out)
  have HOc := Lib.hid (HO1.out.fr HFx.out (fun _ h => h.elim))
  have HCc := Lib.hid (HC1.out.frF HFx.out)
  have HCEc := Lib.hid (HCE1.out.fr HFx.out)
  have HFc := Lib.hid (HF1.out.trans (HFx.out.mono (S' := fun t => 1 ≤ t.1) (fun _ h => h.elim)))
  by_cases hv : places < 1 ∨ 32 < places ∨ rightB items places = false
  · have HV := Lib.hid hv
    clear hv
    go_wp2_with (
      go_at_call 30
      refine (rnew_bad places items HIc.out HV.out).mono ?_
      rintro e w' ⟨rfl, hw⟩
      replace hw := hw.symm
      subst hw)
    go_ret
    exact ⟨rfl, T1, HFc.out⟩
  · obtain ⟨hp1, hp2, hright⟩ : 1 ≤ places ∧ places ≤ 32 ∧ rightB items places = true := by
      simp only [not_or, Bool.not_eq_false, Int.not_lt] at hv
      exact hv
    clear hv
    obtain ⟨pl, rfl⟩ : ∃ pl : Nat, places = pl := ⟨places.toNat, by omega⟩
    have HRG := Lib.hid hright
    have hpl1 : 1 ≤ pl := by omega
    have hpl2 : pl ≤ 32 := by omega
    clear hright hp1 hp2
    have hmk : ∀ W, (Instr.makeMap 66 none).run Try.prog W = .ok (.map (some W.heap.size)) (W.alloc (.map #[] 0)) := mk66
    go_upto_region 12 with (first
    | (
      go_at_call 30
      refine (rnew_ok 140 pl items HIc.out HIEc.out HFc.out.dom (by omega) hpl1 hpl2 HRG.out).mono ?_
      rintro e w3 ⟨q, rfl, T3, Ps, yv, ys, _, _, _, _, hF3⟩
      have HI3 := Lib.hid (HIc.out.ext HIEc.out hF3 (fun t h => by omega))
      have HIE3 := Lib.hid (HIEc.out.fr hF3)
      have HO3 := Lib.hid (HOc.out.fr hF3 (fun t h => by omega))
      have HC3 := Lib.hid (HCc.out.ext HCEc.out hF3 (fun t h => by omega))
      have HCE3 := Lib.hid (HCEc.out.fr hF3)
      have HF3 := Lib.hid (HFc.out.trans (hF3.mono (fun t h => by omega)))
      clear hF3)
    | (
      go_at_call 29
      refine (p_new 100 pl items HI3.out HIE3.out HF3.out.dom (by omega) hpl1 hpl2 HRG.out).mono ?_
      rintro e w4 ⟨p, rfl, T4, hL4, hF4⟩
      have HL4 := Lib.hid hL4
      have HI4 := Lib.hid (HI3.out.ext HIE3.out hF4 (fun t h => by omega))
      have HIE4 := Lib.hid (HIE3.out.fr hF4)
      have HO4 := Lib.hid (HO3.out.fr hF4 (fun t h => by omega))
      have HC4 := Lib.hid (HC3.out.ext HCE3.out hF4 (fun t h => by omega))
      have HCE4 := Lib.hid (HCE3.out.fr hF4)
      have HF4 := Lib.hid (HF3.out.trans (hF4.mono (fun t h => by omega)))
      clear hF4 hL4))
    clear hmk
    obtain ⟨w6, hw6⟩ : ∃ w6, w6 = (w4.alloc (.map #[] 0)).alloc (.cells #[.map (some w4.heap.size)] 66) := ⟨_, rfl⟩
    obtain ⟨bm, hbm⟩ : ∃ bm, bm = w4.heap.size := ⟨_, rfl⟩
    obtain ⟨bc, hbc⟩ : ∃ bc, bc = w4.heap.size + 1 := ⟨_, rfl⟩
    obtain ⟨T6, hT6⟩ : ∃ T6, T6 = give T4 bm (700, 0, 0) := ⟨_, rfl⟩
    have hFa : Fr (fun _ => False) T4 T6 w4 (w4.alloc (.map #[] 0)) := by rw [hT6, hbm]; exact Fr.give_alloc HF4.out.dom _ _
    have hFb : Fr (fun _ => False) T6 T6 (w4.alloc (.map #[] 0)) w6 := by rw [hw6]; exact Fr.alloc hFa.dom _
    have hF6 := hFa.trans hFb
    have n0 : w6.cell? ⟨bc, 0, none⟩ = some (.map (some bm)) := by rw [hw6, hbc, hbm]; go_simp
    have hmap : MapIs w6 bm (([] : List Int).map fun n => (.int .i64 n, .bool true)) := ⟨#[], 0, hFb.heap (by rw [hbm]; exact Go.Ng.heap_alloc_at _ _) (fun x => x), rfl⟩
    have hbmt : T6 bm = (700, 0, 0) := by rw [hT6]; exact give_at _ _ _
    have hbct : (T6 bc).1 = 0 := by
      have := hFa.dom.new
      rw [hbc]
      simpa using this
    rw [← hw6, ← hbc, ← hbm]
    have HMP := Lib.hid hmap
    have HBM := Lib.hid hbmt
    have HBC := Lib.hid hbct
    have HL6 := Lib.hid (HL4.out.frF hF6)
    have HI6 := Lib.hid (HI4.out.frF hF6)
    have HIE6 := Lib.hid (HIE4.out.fr hF6)
    have HO6 := Lib.hid (HO4.out.fr hF6 (fun _ h => h.elim))
    have HC6 := Lib.hid (HC4.out.frF hF6)
    have HCE6 := Lib.hid (HCE4.out.fr hF6)
    have HF6 := Lib.hid (HF4.out.trans (hF6.mono (S' := fun t => 1 ≤ t.1) (fun _ h => h.elim)))
    have HBML := Lib.hid hmap.lt
    have HP0 : Hid (Picked (beginG pl items) pl items.length [] []) := Lib.hid ⟨apart_begin pl items, rfl, rfl, rfl, fun i x h => by simp at h, fun p c h => by simp [beginG] at h⟩
    clear hw6 hbm hbc hT6 hFa hFb hF6 hmap hbmt hbct
    go_wp2_with fail
    go_loopw [71, 14] (fun i bg wr => ∃ m : Nat, m ≤ l.length ∧ i = .int .i64 m ∧ ∃ (gm : G) (xs : List (OpM × Value)) (us : List Int) (Tr : Nat → Tag) (A2 : Option Addr) (cap2 : Nat), bg = .slice A2 xs.length cap2 ∧ xs.length ≤ m ∧ Hid (Picked gm pl items.length xs us) ∧ Hid (LiveP Tr 100 wr p gm m) ∧
      Hid (MapIs wr bm (us.map fun n => (.int .i64 n, .bool true))) ∧ Hid (Row Tr (750, 0, 0) 36 3 wr (.slice A2 xs.length cap2) xs.length (xs.flatMap opCells)) ∧ Hid (∀ x ∈ xs, RdX Tr wr x.2 x.1.claims) ∧
      Hid (Fr (fun t => (100 ≤ t.1 ∧ t.1 ≤ 132) ∨ t.1 = 700 ∨ t.1 = 750) T6 Tr w6 wr)) (fun i _ _ => l.length - (intOf i).toNat)
    case atStart => exact ⟨0, Nat.zero_le _, rfl, beginG pl items, [], [], T6, none, 0, rfl, Nat.le_refl _, HP0, HL6, HMP, Lib.hid (Row.nil _ _ _ _ _), Lib.hid (fun x h => by simp at h), Lib.hid (Fr.refl HF6.out.dom)⟩
    case round =>
      obtain ⟨m, hm, rfl, gm, xs, us, Tr, A2, cap2, rfl, hxm, HPK, HLr, HMr, HBr, HXr, HFr⟩ := hrel
      by_cases hmt : m < l.length
      · obtain ⟨⟨ok, on, cs⟩, hx⟩ : ∃ o, l[m]? = some o := ⟨_, List.getElem?_eq_getElem hmt⟩
        have hcs100 : cs.length ≤ 100 := few_claims HFEW.out (List.mem_of_getElem? hx)
        obtain ⟨ob, ooff, ocap', u, hov, o0, o1, o2, hxr⟩ := (HO6.out.fr HFr.out (fun t h => by omega)).get hx
        injection hov with hov _ hov2
        subst hov hov2
        simp only at o0 o1 o2 hxr
        obtain ⟨UA, ucap, rfl, u2⟩ := hxr.slice
        unfold maxLen at u2
        have HXO := Lib.hid hxr
        have i5 : (0 : Int) ≤ (m : Int) := by omega
        have i6 : (m : Int) < (l.length : Int) := by omega
        have hokr := HFr.out.dom
        have r0 : wr.cell? ⟨bc, 0, none⟩ = some (.map (some bm)) := HFr.out.cell n0 (by simp only [HBC.out]; omega)
        have hbmr : Tr bm = (700, 0, 0) := (HFr.out.same bm HBML.out).trans HBM.out
        obtain ⟨skip, hskip⟩ : ∃ b : Bool, b = ((ok != 0) || cs.any (usedI us)) := ⟨_, rfl⟩
        clear hx hxr
        go_upto_region 16 with fail
        obtain ⟨w8, hw8⟩ : ∃ w8, w8 = wr.alloc (.cells #[.int .i64 ok, .int .i64 on, .slice UA cs.length ucap] 36) := ⟨_, rfl⟩
        obtain ⟨bo, hbo⟩ : ∃ bo, bo = wr.heap.size := ⟨_, rfl⟩
        have hF8 : Fr (fun _ => False) Tr Tr wr w8 := by rw [hw8]; exact Fr.alloc hokr _
        have a0 : w8.cell? ⟨bo, 0, none⟩ = some (.int .i64 ok) := by rw [hw8, hbo]; go_simp
        have a1 : w8.cell? ⟨bo, 1, none⟩ = some (.int .i64 on) := by rw [hw8, hbo]; go_simp
        have a2 : w8.cell? ⟨bo, 2, none⟩ = some (.slice UA cs.length ucap) := by rw [hw8, hbo]; go_simp
        have hbot : (Tr bo).1 = 0 := by rw [hbo]; exact hokr.new
        have s0 : w8.cell? ⟨bc, 0, none⟩ = some (.map (some bm)) := hF8.cellF r0
        rw [← hw8, ← hbo]
        have HBO := Lib.hid hbot
        have HL8 := Lib.hid (HLr.out.frF hF8)
        have HX8 := Lib.hid (HXO.out.frF hF8)
        have HM8 := Lib.hid (HMr.out.fr hF8 (fun x => x))
        have HB8 := Lib.hid (HBr.out.fr hF8 (fun x => x))
        have HXS8 : Hid (∀ x ∈ xs, RdX Tr w8 x.2 x.1.claims) := Lib.hid (fun x h => (HXr.out x h).frF hF8)
        have HBR := Lib.hid hbmr
        have HF8 := Lib.hid (HFr.out.trans (hF8.mono (fun _ h => h.elim)))
        have HCL := Lib.hid (usedAny_ok bc s0 HM8.out HM8.out.lt HX8.out (by omega) HF8.out.dom)
        clear hw8 hbo hF8 o0 o1 o2 hokr r0 hbot hbmr
        go_cut [83] (fun s wx => s = .bool skip ∧ Hid (Fr (fun _ => False) Tr Tr w8 wx))
        case first =>
          go_wp2_with (
            go_at_call 35
            refine HCL.out.mono ?_
            rintro e w9 ⟨rfl, hF9⟩
            have HF9 := Lib.hid hF9
            clear hF9)
          all_goals
            go_meet
            case rel => exact ⟨by rw [hskip]; (try simp [*]), by first | exact HF9 | exact Lib.hid (Fr.refl HF8.out.dom)⟩
        case rest =>
        obtain ⟨rfl, HFy⟩ := hcut
        have HLy := Lib.hid (HL8.out.frF HFy.out)
        have HMy := Lib.hid (HM8.out.fr HFy.out (fun x => x))
        have HBy := Lib.hid (HB8.out.fr HFy.out (fun x => x))
        have HXy : Hid (∀ x ∈ xs, RdX Tr wc x.2 x.1.claims) := Lib.hid (fun x h => (HXS8.out x h).frF HFy.out)
        have HFF := Lib.hid (HF8.out.trans (HFy.out.mono (fun _ h => h.elim)))
        cases skip
        case true =>
          clear hskip
          go_wp2_with fail
          go_roundw
          case rel => exact ⟨m + 1, by omega, by go_num, gm, xs, us, Tr, A2, cap2, rfl, by omega, HPK, Lib.hid (HLy.out.more (Nat.le_succ m)), HMy, HBy, HXy, HFF⟩
          case measure => simp [intOf]; omega
        case false =>
        have hsk := hskip.symm
        simp only [Bool.or_eq_false_iff, bne_eq_false_iff_eq] at hsk
        obtain ⟨rfl, hany⟩ := hsk
        have HANY := Lib.hid hany
        have t0 := HFy.out.cellF a0
        have t1 := HFy.out.cellF a1
        have t2 := HFy.out.cellF a2
        have t3 := HFy.out.cellF s0
        have HXOy := Lib.hid (HX8.out.frF HFy.out)
        have hDO := p_do (⟨0, on, cs⟩ : OpM) HLy.out (by omega) HXOy.out
        rw [doG_zero] at hDO
        have hpk : (doP gm on cs).2.2.2 = 0 → Picked (doP gm on cs).1 pl items.length (xs ++ [(⟨0, on, cs⟩, .slice UA cs.length ucap)]) (addAll us cs) := fun he => HPK.out.add HANY.out he
        have hnp := doP_np gm on cs
        obtain ⟨res, hres⟩ : ∃ r, r = doP gm on cs := ⟨_, rfl⟩
        rw [← hres] at hDO hpk hnp
        obtain ⟨rg, rn, rc, er⟩ := res
        simp only at hDO hpk hnp
        have HDO := Lib.hid hDO
        have HPA := Lib.hid hpk
        have HNPD := Lib.hid hnp
        clear hskip hany hDO hpk hnp hres a0 a1 a2 s0
        by_cases her : er = 0
        · subst her
          obtain ⟨j0, hj, hy0, hy1, hy2⟩ := info_parts Try.info36
          go_wp2_with (first
          | (
            go_at_call 31
            refine HDO.out.mono ?_
            rintro e w11 ⟨cv, rfl, hD⟩
            obtain ⟨T11, hL11, hcv, hF11⟩ := hD.did
            obtain ⟨A11, c11, rfl, _, _⟩ := hcv.slice
            have e0 : w11.cell? ⟨bo, 0, none⟩ = some (.int .i64 0) := hF11.cell t0 (by simp only [HBO.out]; omega)
            have e1 : w11.cell? ⟨bo, 1, none⟩ = some (.int .i64 on) := hF11.cell t1 (by simp only [HBO.out]; omega)
            have e2 : w11.cell? ⟨bo, 2, none⟩ = some (.slice UA cs.length ucap) := hF11.cell t2 (by simp only [HBO.out]; omega)
            have HBOT : Hid (T11 bo = Tr bo) := Lib.hid (hF11.same bo (World.block_lt_of_cell? _ _ t0))
            have HL11 := Lib.hid hL11
            have HF11 := Lib.hid hF11
            have hok11 := hF11.dom
            have HB11 := Lib.hid (HBy.out.fr hF11 (by simp))
            clear hL11 hD hcv hF11)
          | (
            at_builtin
            refine append_list rfl (.tmp 93) (.tmp 95) 23 rfl (by rfl) (by rfl) (HB11.out.alloc _) (hok11.alloc _) Try.underlying23 hj hy0 hy1 hy2 rfl (by decide) [.int .i64 0, .int .i64 on, .slice UA cs.length ucap] rfl (news_at (Go.Ng.heap_alloc_at _ _)) (by simp [Value.oneCell']) (by decide) (by unfold maxLen; omega) (by omega) ?_
            intro g3 cap3 w12 T12 hrow hfr
            have hfr2 := (Fr.alloc (S := fun t => t = (750, 0, 0)) hok11 (.cells #[.int .i64 0, .int .i64 on, .slice UA cs.length ucap] 36)).trans hfr
            have x2 : w12.cell? ⟨bo, 2, none⟩ = some (.slice UA cs.length ucap) := hfr2.cell e2 (by rw [HBOT.out]; intro h; have := HBO.out; rw [h] at this; simp at this)
            have HROW := Lib.hid hrow
            have HFR := Lib.hid hfr2
            clear hrow hfr hfr2))
          have HF12 := Lib.hid ((HF11.out.mono (S' := fun t => (100 ≤ t.1 ∧ t.1 ≤ 132) ∨ t.1 = 700 ∨ t.1 = 750) (fun t h => .inl h)).trans (HFR.out.mono (fun t h => by subst h; exact .inr (.inr rfl))))
          have x3 : w12.cell? ⟨bc, 0, none⟩ = some (.map (some bm)) := by
            have h0 : (Tr bc).1 = 0 := by rw [HFF.out.same bc (World.block_lt_of_cell? _ _ n0)]; exact HBC.out
            exact HF12.out.cell t3 (by simp only [h0]; omega)
          have HM12 := Lib.hid ((HMy.out.fr HF11.out (by simp only [HBR.out]; omega)).fr HFR.out (by rw [HF11.out.same bm HMy.out.lt, HBR.out]; simp))
          have HBR12 : Hid (T12 bm = (700, 0, 0)) := Lib.hid ((HF12.out.same bm HMy.out.lt).trans HBR.out)
          have HXO12 := Lib.hid (HXOy.out.fr HF12.out (fun t h => by omega))
          have HBC12 : Hid ((T12 bc).1 = 0) := Lib.hid (by rw [HF12.out.same bc (World.block_lt_of_cell? _ _ t3), HFF.out.same bc (World.block_lt_of_cell? _ _ n0)]; exact HBC.out)
          clear hj hy0 hy1 hy2
          go_loopw [100] (fun i wq => ∃ j : Nat, j ≤ cs.length ∧ i = .int .i64 j ∧ Hid (MapIs wq bm ((addAll us (cs.take j)).map fun n => (.int .i64 n, .bool true))) ∧ Hid (Fr (fun t => t.1 = 700) T12 T12 w12 wq)) (fun i _ => cs.length - (intOf i).toNat)
          case atStart => exact ⟨0, Nat.zero_le _, rfl, HM12, Lib.hid (Fr.refl HFR.out.dom)⟩
          case round =>
            obtain ⟨j, hjj, rfl, HMk, HFk⟩ := hrel
            by_cases hjt : j < cs.length
            · obtain ⟨⟨ci, cv⟩, hcx⟩ : ∃ c, cs[j]? = some c := ⟨_, List.getElem?_eq_getElem hjt⟩
              have hrd : Rd 2 wr (.slice UA cs.length ucap) cs.length (claims cs) := by
                rcases HXO12.out.fr HFk.out (fun t h => by omega) with h | ⟨h, _⟩
                · exact h.1
                · rw [h] at hjt; simp at hjt
              obtain ⟨cb, coff, ccap', he, _, _, hac⟩ := Rd.elem (enc := Clm.cells) hrd (fun _ => rfl) (by decide) hcx
              injection he with he _ he2
              subst he he2
              have f0 : wr.cell? ⟨cb, coff + j * 2, none⟩ = some (.int .i64 ci) := hac 0 _ rfl
              have f1 : wr.cell? ⟨cb, coff + j * 2 + 1, none⟩ = some (.int .i64 cv) := hac 1 _ rfl
              have c0 : wr.cell? ⟨bc, 0, none⟩ = some (.map (some bm)) := HFk.out.cell x3 (by simp only [HBC12.out]; omega)
              have hokk := HFk.out.dom
              have hFa : Fr (fun t => t.1 = 700) T12 T12 wr (wr.alloc (.cells #[.int .i64 ci, .int .i64 cv] 69)) := Fr.alloc hokk _
              have c1 : (wr.alloc (.cells #[.int .i64 ci, .int .i64 cv] 69)).cell? ⟨bc, 0, none⟩ = some (.map (some bm)) := (Fr.alloc (S := fun _ => False) hokk (.cells #[.int .i64 ci, .int .i64 cv] 69)).cellF c0
              have hma := HMk.out.fr (Fr.alloc (S := fun _ => False) hokk (.cells #[.int .i64 ci, .int .i64 cv] 69)) (fun x => x)
              obtain ⟨w13, hrun, ⟨o, ho⟩, hm13⟩ := MapIs.add (tag := T12) (tag' := T12) hma ci
              have hF13 : Fr (fun t => t.1 = 700) T12 T12 wr w13 := hFa.trans (by rw [ho]; exact Fr.setObj hFa.dom (by rw [HBR12.out]) o)
              have HAT := Lib.hid (addAll_take us hcx)
              have HM13 := Lib.hid hm13
              have HF13 := Lib.hid hF13
              have i7 : (0 : Int) ≤ (j : Int) := by omega
              have i9 : (j : Int) < (cs.length : Int) := by omega
              have HRUN := Lib.hid hrun
              clear hrd hac hcx hFa hma ho hm13 hF13 hokk hrun
              go_wp2_with (at_mapUpdate; refine put_list (T := 66) rfl rfl (.tmp 104) (.tmp 106) (.const (.bool true)) rfl (by rfl) (by rfl) (by rfl) HRUN.out ?_)
              go_roundw
              case rel => exact ⟨j + 1, by omega, by go_num, Lib.hid (by rw [HAT.out]; exact HM13.out), Lib.hid (HFk.out.trans HF13.out)⟩
              case measure => simp [intOf]; omega
            · have hje : j = cs.length := by omega
              subst hje
              have HMz : Hid (MapIs wr bm ((addAll us cs).map fun n => (.int .i64 n, .bool true))) := Lib.hid (by have := HMk.out; rw [List.take_length] at this; exact this)
              go_wp2_with fail
              go_roundw
              case rel =>
                have hF1 := HF12.out.trans (HFk.out.mono (fun t h => .inr (.inl h)))
                refine ⟨m + 1, by omega, by go_num, rg, xs ++ [(⟨0, on, cs⟩, .slice UA cs.length ucap)], addAll us cs, T12, some ⟨g3, 0, none⟩, cap3, by rw [List.length_append]; rfl, by rw [List.length_append]; simp; omega, Lib.hid (HPA.out trivial), Lib.hid ((HL11.out.fr HFR.out (fun t h => by subst h; right; decide)).fr HFk.out (fun t h => by omega)), HMz, Lib.hid ?_, Lib.hid (fun x hx => ?_), Lib.hid (HFF.out.trans hF1)⟩
                · rw [List.length_append, List.flatMap_append]
                  have := HROW.out.fr HFk.out (by simp)
                  simpa [opCells] using this
                · rcases List.mem_append.1 hx with hx | hx
                  · exact (HXy.out x hx).fr hF1 (fun t h => by omega)
                  · rw [List.mem_singleton.1 hx]
                    exact HXO12.out.fr HFk.out (fun t h => by omega)
              case measure => simp [intOf]; omega
        · have i14 : (er == 0) = false := by simpa using her
          have HER := Lib.hid her
          clear her
          go_wp2_with (
            go_at_call 31
            refine HDO.out.mono ?_
            rintro e w11 ⟨cv, rfl, hD⟩
            obtain ⟨T11, hL11, hcv, hF11⟩ := hD.did
            obtain ⟨A11, c11, rfl, _, _⟩ := hcv.slice
            have HL11 := Lib.hid hL11
            have HF11 := Lib.hid hF11
            clear hL11 hD hcv hF11)
          go_roundw
          case rel =>
            have hrg : rg = gm := by
              rcases HNPD.out with ⟨h, _⟩ | ⟨_, h⟩
              · exact absurd h HER.out
              · exact h
            have hF1 := HF11.out.mono (S' := fun t => (100 ≤ t.1 ∧ t.1 ≤ 132) ∨ t.1 = 700 ∨ t.1 = 750) (fun t h => .inl h)
            exact ⟨m + 1, by omega, by go_num, rg, xs, us, T11, A2, cap2, rfl, by omega, by rw [hrg]; exact HPK, HL11, Lib.hid (HMy.out.fr HF11.out (by simp only [HBR.out]; omega)), Lib.hid (HBy.out.fr HF11.out (by simp)), Lib.hid (fun x hx => (HXy.out x hx).fr hF1 (fun t h => by omega)), Lib.hid (HFF.out.trans hF1)⟩
          case measure => simp [intOf]; omega
      · have hmm : m = l.length := by omega
        subst hmm
        have HI8 := Lib.hid (HI6.out.ext HIE6.out HFr.out (fun t h => by omega))
        have HIE8 := Lib.hid (HIE6.out.fr HFr.out)
        have HC8 := Lib.hid (HC6.out.ext HCE6.out HFr.out (fun t h => by omega))
        have HCE8 := Lib.hid (HCE6.out.fr HFr.out)
        have HFW8 := Lib.hid (HF6.out.trans (HFr.out.mono (S' := fun t => 1 ≤ t.1) (fun t h => by omega)))
        obtain ⟨hA2, hA3⟩ : xs.length ≤ cap2 ∧ cap2 ≤ maxLen := by
          obtain ⟨A', c', h1, h2, h3⟩ := HBr.out.form
          injection h1 with _ _ h1
          subst h1
          exact ⟨h2, h3⟩
        unfold maxLen at hA3
        go_wp2_with (
          go_at_call 37
          refine (calm_ok choices HLr.out (by omega) HC8.out HCE8.out (by omega)).mono ?_
          rintro e w9 ⟨rfl, mc, T9, hfl, hmc, hL9, hF9⟩
          have hap := apart_calm HPK.out.apart choices mc
          have hcn := calmN_n choices gm mc
          generalize (calmN choices gm mc).1 = g4 at hfl hL9 hap hcn
          have HAP := Lib.hid hap
          have HCN := Lib.hid hcn
          have HST := Lib.hid (still_of hfl)
          have HL9 := Lib.hid hL9
          have HI9 := Lib.hid (HI8.out.ext HIE8.out hF9 (fun t h => by omega))
          have HIE9 := Lib.hid (HIE8.out.fr hF9)
          have HB9 := Lib.hid (HBr.out.fr hF9 (by simp))
          have HX9 : Hid (∀ x ∈ xs, RdX T9 w9 x.2 x.1.claims) := Lib.hid (fun x hx => (HXr.out x hx).fr hF9 (fun t h => by omega))
          have HFW9 := Lib.hid (HFW8.out.trans (hF9.mono (fun t h => by omega)))
          clear hfl hF9 hL9 hmc hap hcn)
        go_loopw [115] (fun i wq => ∃ n : Nat, n ≤ xs.length ∧ i = .int .i64 n ∧ ∃ Tq : Nat → Tag, Hid (Fr (fun t => 200 ≤ t.1 ∧ t.1 ≤ 240) T9 Tq w9 wq)) (fun i _ => xs.length - (intOf i).toNat)
        case atStart => exact ⟨0, Nat.zero_le _, rfl, T9, Lib.hid (Fr.refl HFW9.out.dom)⟩
        case round =>
          obtain ⟨n, hn, rfl, Tq, HFq⟩ := hrel
          by_cases hlt : n < xs.length
          · obtain ⟨⟨⟨ok, on, cs⟩, u⟩, hx⟩ : ∃ x, xs[n]? = some x := ⟨_, List.getElem?_eq_getElem hlt⟩
            obtain ⟨hk0, hn0, hn1, hcb, hcl⟩ := HPK.out.cl n _ hx
            simp only at hk0 hn0 hn1 hcb hcl
            subst hk0
            have hxu := (HX9.out _ (List.mem_of_getElem? hx)).fr HFq.out (fun t h => by omega)
            simp only at hxu
            obtain ⟨UA, ucap, rfl, u2⟩ := hxu.slice
            unfold maxLen at u2
            obtain ⟨rb, rfl, _, _, hce⟩ := Row.elem (enc := opCells) (HB9.out.fr HFq.out (by simp)) (fun _ => rfl) (by decide) hx
            have f0 : wr.cell? ⟨rb, n * 3, none⟩ = some (.int .i64 0) := hce 0 _ rfl
            have f1 : wr.cell? ⟨rb, n * 3 + 1, none⟩ = some (.int .i64 on) := hce 1 _ rfl
            have f2 : wr.cell? ⟨rb, n * 3 + 2, none⟩ = some (.slice UA cs.length ucap) := hce 2 _ rfl
            obtain ⟨c, hdo, hapm, hclm, hnpm⟩ := alone_run pl items hn0 hn1 hcb
            have hnp4 : n < g4.np := by rw [HCN.out.2.1, ← HPK.out.len]; exact hlt
            have hst4 : (g4.props n).st = aloneI cs := by
              rw [HAP.out.end_ HST.out (by omega) (by omega), HCN.out.2.2, ← hcl]
            have HDO := Lib.hid hdo
            have HAPM := Lib.hid hapm
            have HCLM := Lib.hid hclm
            have HNPM := Lib.hid hnpm
            have HNP4 := Lib.hid hnp4
            have HST4 := Lib.hid hst4
            have HXU := Lib.hid hxu
            obtain ⟨gp, hgp⟩ : ∃ x, x = (beginG pl items).proposeG on cs c := ⟨_, rfl⟩
            obtain ⟨al, hal⟩ : ∃ x, x = aloneI cs := ⟨_, rfl⟩
            rw [← hgp] at HDO HAPM HCLM HNPM
            rw [← hal] at HST4
            have HAL := Lib.hid hal
            have i5 : (0 : Int) ≤ (n : Int) := by omega
            have i6 : (n : Int) < (xs.length : Int) := by omega
            have hokq := HFq.out.dom
            clear hx hn0 hn1 hcb hcl hxu hce hdo hapm hclm hnpm hnp4 hst4 hgp hal
            go_upto_region 31 with fail
            obtain ⟨w10, hw10⟩ : ∃ w10, w10 = wr.alloc (.cells #[.int .i64 0, .int .i64 on, .slice UA cs.length ucap] 36) := ⟨_, rfl⟩
            obtain ⟨bo, hbo⟩ : ∃ bo, bo = wr.heap.size := ⟨_, rfl⟩
            have hF10 : Fr (fun _ => False) Tq Tq wr w10 := by rw [hw10]; exact Fr.alloc hokq _
            have a0 : w10.cell? ⟨bo, 0, none⟩ = some (.int .i64 0) := by rw [hw10, hbo]; go_simp
            have a1 : w10.cell? ⟨bo, 1, none⟩ = some (.int .i64 on) := by rw [hw10, hbo]; go_simp
            have a2 : w10.cell? ⟨bo, 2, none⟩ = some (.slice UA cs.length ucap) := by rw [hw10, hbo]; go_simp
            have hbot : (Tq bo).1 = 0 := by rw [hbo]; exact hokq.new
            rw [← hw10, ← hbo]
            have HBO := Lib.hid hbot
            have HXU10 := Lib.hid (HXU.out.frF hF10)
            have HFQ := Lib.hid (HFq.out.trans (hF10.mono (fun _ h => h.elim)))
            clear hw10 hbo hF10 f0 f1 f2 hbot hokq
            go_upto_region 38 with (first
            | (
              go_at_call 29
              refine (p_new 200 pl items (HI9.out.ext HIE9.out HFQ.out (fun t h => by omega)) (HIE9.out.fr HFQ.out) HFQ.out.dom (by omega) hpl1 hpl2 HRG.out).mono ?_
              rintro e w11 ⟨pm, rfl, T11, hL11, hF11⟩
              have b0 : w11.cell? ⟨bo, 0, none⟩ = some (.int .i64 0) := hF11.cell a0 (by simp only [HBO.out]; omega)
              have b1 : w11.cell? ⟨bo, 1, none⟩ = some (.int .i64 on) := hF11.cell a1 (by simp only [HBO.out]; omega)
              have b2 : w11.cell? ⟨bo, 2, none⟩ = some (.slice UA cs.length ucap) := hF11.cell a2 (by simp only [HBO.out]; omega)
              have HL11 := Lib.hid hL11
              have HXU11 := Lib.hid (HXU10.out.fr hF11 (fun t h => by omega))
              have HF11 := Lib.hid (HFQ.out.trans (hF11.mono (fun t h => by omega)))
              have hDM := p_do (⟨0, on, cs⟩ : OpM) HL11.out (by omega) HXU11.out
              rw [doG_zero, HDO.out] at hDM
              have HDM := Lib.hid hDM
              clear hL11 hF11 hDM)
            | (
              go_at_call 31
              refine HDM.out.mono ?_
              rintro e w12 ⟨cv, rfl, hD⟩
              obtain ⟨T12, hL12, hcv, hF12⟩ := hD.did
              obtain ⟨A12, c12, rfl, _, _⟩ := hcv.slice
              have HL12 := Lib.hid hL12
              have HF12 := Lib.hid (HF11.out.trans (hF12.mono (fun t h => by omega)))
              clear hL12 hD hcv hF12)
            | (
              go_at_call 37
              go_loud (refine (calm_ok [] HL12.out (by decide) (v := .slice none 0 0) ⟨rfl, by simp [ints], .inl ⟨rfl, rfl⟩⟩ (fun b off m cap h => by cases h) (by simp)).mono ?_)
              rintro e w13 ⟨rfl, mc2, T13, hfl, hmc, hL13, hF13⟩
              have hap := apart_calm HAPM.out [] mc2
              have hcn := calmN_n [] gp mc2
              have HNP1 : Hid (0 < (calmN [] gp mc2).1.np) := Lib.hid (by rw [hcn.2.1, HNPM.out]; decide)
              go_loud (have HSTM : Hid (((calmN [] gp mc2).1.props (0 : Nat)).st = al) := Lib.hid (by
                have := hap.end_ (still_of hfl) (p := (0 : Nat)) (by decide) (by have := HNP1.out; omega)
                rw [this, hcn.2.2, HAL.out]
                exact congrArg aloneI HCLM.out))
              have HL13 := Lib.hid hL13
              have HF13 := Lib.hid (HF12.out.trans (hF13.mono (fun t h => by omega)))
              clear hL13 hfl hF13 hmc hap hcn)
            | (
              go_at_call 38
              refine (p_status (n := n) (HL9.out.fr HF13.out (fun t h => by omega)) HNP4.out).mono ?_
              rw [HST4.out]
              rintro e w14 ⟨rfl, hF14⟩
              have HL14 := Lib.hid (HL13.out.frF hF14)
              have HF14 := Lib.hid (HF13.out.trans (hF14.mono (fun _ h => h.elim)))
              clear hF14))
            go_wp2_with (
              go_at_call 38
              refine (p_status (n := 0) HL14.out HNP1.out).mono ?_
              rw [HSTM.out]
              rintro e w15 ⟨rfl, hF15⟩
              have HF15 := Lib.hid (HF14.out.trans (hF15.mono (fun _ h => h.elim)))
              clear hF15)
            go_roundw
            case rel => exact ⟨n + 1, by omega, by go_num, T13, HF15⟩
            case measure => simp [intOf]; omega
          · have hnn : n = xs.length := by omega
            subst hnn
            go_wp2_with fail
            go_ret
            exact ⟨rfl, Tq, HFW9.out.trans (HFq.out.mono (fun t h => by omega))⟩
end Go.Proofs.Ytclkokkppgchfaa
