/- A part of the proof: texts of this session, joined. -/
import Derived.Test.YtclkokkppgchfaaNegoEnoughOwn11
import Derived.Test.YtclkokkppgchfaaPart10
import Derived.Deep.DeepCutAuto
import Derived.Test.YtclkokkppgchfaaPart5
import Derived.Test.YtclkokkppgchfaaPart4
import Derived.Test.YtclkokkppgchfaaPart6
/- Proposals with the present versions, and proposals without common items: what is done to them. -/
namespace Go.Proofs.Ytclkokkppgchfaa
open Go.Ng
set_option linter.unusedVariables false
section
variable {g0 g : G}
theorem ahead_doL (A : Ahead g0 g) (I0 : NGood g0) (S0 : Still g0.has) (i : Int) : Ahead g0 (doL g i).1 := by
  unfold doL
  split
  · exact A
  · split
    · rename_i m hm; exact A.deliver I0 S0 hm
    · exact A
theorem ahead_doP (A : Ahead g0 g) (n : Int) {l : List Clm} (hv : ∀ c ∈ l, c.version = (g0.items c.item).hist.length) : Ahead g0 (doP g n l).1 := by
  unfold doP
  split
  · exact A
  · split
    · exact A
    · rename_i hcl
      split
      · rename_i c hc
        exact A.propose (claimed_of (by simpa using hcl)) hc hv
      · exact A
theorem ahead_calm (A : Ahead g0 g) (I0 : NGood g0) (S0 : Still g0.has) (choices : List Int) : ∀ k, Ahead g0 (calmN choices g k).1
  | 0 => A
  | k + 1 => ahead_doL (ahead_calm A I0 S0 choices k) I0 S0 _
theorem apart_doL (A : Apart g) (i : Int) : Apart (doL g i).1 := by
  unfold doL
  split
  · exact A
  · split
    · rename_i m hm; exact A.deliver hm
    · exact A
theorem apart_doP (A : Apart g) (n : Int) {l : List Clm} (hd : ∀ p : Int, ∀ d ∈ (g.props p).claims, ∀ c ∈ l, d.item ≠ c.item) : Apart (doP g n l).1 := by
  unfold doP
  split
  · exact A
  · split
    · exact A
    · rename_i hcl
      split
      · rename_i c hc
        exact A.propose (claimed_of (by simpa using hcl)) hc hd
      · exact A
theorem apart_calm (A : Apart g) (choices : List Int) : ∀ k, Apart (calmN choices g k).1
  | 0 => A
  | k + 1 => apart_doL (apart_calm A choices k) _
theorem apart_begin (places : Nat) (l : List Int) : Apart (beginG places l) := by
  refine ⟨beginG_good places l, ?_, ⟨?_, ?_⟩, ?_⟩ <;> simp [beginG, G.has]
/-- What is dropped stays dropped. -/
theorem drop_doL (i : Int) {p : Int} (h : (g.props p).st = 4) : ((doL g i).1.props p).st = 4 := by
  unfold doL
  split
  · exact h
  · split
    · rename_i m hm
      show ((g.takeG m).1.props p).st = 4
      rcases takeG_st (g := g) m p with e | ⟨h1, _⟩
      · rw [e]; exact h
      · omega
    · exact h
theorem drop_calm (choices : List Int) {p : Int} (h : (g.props p).st = 4) : ∀ k, ((calmN choices g k).1.props p).st = 4
  | 0 => h
  | k + 1 => drop_doL _ (drop_calm choices h k)
theorem doD_ok {n : Int} (h : (doD g n).2.2.2 = 0) : 0 ≤ n ∧ n < g.np ∧ (doD g n).1 = g.dropG n ∧ ((doD g n).1.props n).st = 4 := by
  unfold doD at h ⊢
  split at h
  · simp at h
  · rename_i h1
    split at h
    · simp at h
    · rename_i h2
      rw [if_neg h1, if_neg h2]
      exact ⟨by omega, by omega, rfl, by simp [G.dropG, G.setP]⟩
theorem doD_same (n : Int) : (doD g n).1.n = g.n ∧ (doD g n).1.np = g.np ∧ (doD g n).1.places = g.places := by
  unfold doD
  split
  · exact ⟨rfl, rfl, rfl⟩
  · split <;> exact ⟨rfl, rfl, rfl⟩
end
end Go.Proofs.Ytclkokkppgchfaa

/- The versions of all items. -/
namespace Go.Proofs.Ytclkokkppgchfaa
open Go.RowKit Go.Ng Go.Proofs.YtclkokkppgchfaaW.PrintLast
set_option linter.unusedSimpArgs false
set_option linter.unusedVariables false
/-- The versions of the first n items. -/
def versG (g : G) : Nat → List Int
  | 0 => []
  | n + 1 => versG g n ++ [(g.items n).ver]
theorem versG_len (g : G) : ∀ n, (versG g n).length = n
  | 0 => rfl
  | n + 1 => by rw [versG, List.length_append, versG_len g n]; rfl
theorem versG_get (g : G) : ∀ {n j : Nat}, j < n → (versG g n)[j]? = some (g.items j).ver
  | n + 1, j, h => by
    rw [versG]
    by_cases e : j < n
    · rw [List.getElem?_append_left (by rw [versG_len]; exact e)]; exact versG_get g e
    · have : j = n := by omega
      subst this
      rw [List.getElem?_append_right (by rw [versG_len]; omega), versG_len]; simp
set_option maxRecDepth 100000 in
set_option maxHeartbeats 1600000 in
theorem p_versions {tag : Nat → Tag} {w : World} {B p k : Nat} {g : G} (L : LiveP tag B w p g k) (t : Tag) (ht : ∀ b, b < w.heap.size → tag b ≠ t) (htB : t.1 < B ∨ B + 32 < t.1) (ht0 : t.1 ≠ 0) :
    Calls Try.prog 53 #[.pointer (some ⟨p, 0, none⟩), .int .i64 (g.n : Int)] w fun e w' => ∃ v, e = .returned (.tuple #[v, .bool true]) ∧ ∃ tag', Row tag' t 3 1 w' v g.n (ints (versG g g.n)) ∧ Fr (fun _ => False) tag tag' w w' := by
  obtain ⟨i0, hi, hz0, hz1, hz2⟩ := info_parts Try.info3
  have HL := Lib.hid L
  have hn64 := L.n64
  have hok := L.ok
  clear L
  go_enter Try.func53, Try.ntmps53
  go_wp2_with fail
  go_loopw [11, 6] (fun i v wr => ∃ n : Nat, n ≤ g.n ∧ i = .int .i64 n ∧ ∃ A2 cap2, v = .slice A2 n cap2 ∧ ∃ tagr, Hid (Row tagr t 3 1 wr (.slice A2 n cap2) n (ints (versG g n))) ∧ Hid (Fr (· = t) tag tagr w wr)) (fun i _ _ => g.n - (intOf i).toNat)
  case atStart => exact ⟨0, Nat.zero_le _, rfl, none, 0, rfl, tag, Lib.hid (Row.nil _ _ _ _ _), Lib.hid (Fr.refl hok)⟩
  case round =>
    obtain ⟨n, hn, rfl, A2, cap2, rfl, tagr, HR, HG⟩ := hrel
    by_cases hlt : n < g.n
    · have HLr := Lib.hid (HL.out.fr HG.out (fun s hs => by subst hs; exact htB))
      obtain ⟨ver, hver⟩ : ∃ x, x = (g.items n).ver := ⟨_, rfl⟩
      have HVR := Lib.hid hver
      clear hver
      go_wp2_with (first
      | (
        go_at_call 50
        refine (p_version (j := n) HLr.out hlt).mono ?_
        rw [← HVR.out]
        rintro e w2 ⟨rfl, hF2⟩
        have HR2 := Lib.hid (HR.out.fr hF2 (fun x => x))
        have HG2 := Lib.hid (HG.out.trans (hF2.mono (fun _ h => h.elim)))
        have hokr := HG2.out.dom
        clear hF2)
      | (at_builtin; (refine append_list rfl (.tmp 22) (.tmp 24) 22 rfl (by rfl) (by rfl) (HR2.out.alloc _) (hokr.alloc _) Try.underlying22 hi hz0 hz1 hz2 rfl (by decide) [.int .i64 ver] rfl (news_at (heap_alloc_at _ _)) (by simp [Value.oneCell']) (by decide) (by unfold maxLen; omega) (by omega) ?_); intro g3 cap3 w3 tag3 hrow hfr))
      go_roundw
      case rel =>
        refine ⟨n + 1, by omega, by go_num, _, _, rfl, tag3, Lib.hid ?_, Lib.hid ((HG2.out.al _).trans hfr)⟩
        rw [versG, ← HVR.out, ints_snoc]
        exact hrow
      case measure => simp [intOf]; omega
    · have : n = g.n := by omega
      subst this
      have HF := Lib.hid (HG.out.fresh ht)
      go_wp2
      go_ret2
      exact ⟨_, rfl, tagr, HR.out, HF.out⟩
end Go.Proofs.Ytclkokkppgchfaa

/- NegoDropped: the walk. -/
namespace Go.Proofs.Ytclkokkppgchfaa
open Go.RowKit Go.Ng Go.Proofs.YtclkokkppgchfaaW.PrintLast
set_option linter.unusedSimpArgs false
set_option linter.unusedVariables false
/-- Claims of the present versions of the first k items. -/
def presL (g : G) (k : Nat) : List Clm := (List.range' 0 k).map fun (j : Nat) => ⟨(j : Int), (g.items j).ver⟩
theorem presL_len (g : G) (k : Nat) : (presL g k).length = k := by simp [presL]
theorem presL_snoc (g : G) (k : Nat) : presL g (k + 1) = presL g k ++ [⟨(k : Int), (g.items k).ver⟩] := by
  simp [presL, List.range'_concat]
theorem presL_ok (g : G) (I : NGood g) : ∀ (m s : Nat), s + m ≤ g.n → okFrom g.n ((s : Int) - 1) ((List.range' s m).map fun (j : Nat) => (⟨(j : Int), (g.items j).ver⟩ : Clm)) = true
  | 0, s, _ => rfl
  | m + 1, s, h => by
    have ih := presL_ok g I m (s + 1) (by omega)
    have hv := I.inv.vh s
    rw [List.range'_succ, List.map_cons, okFrom]
    simp only [Bool.and_eq_true, decide_eq_true_eq]
    refine ⟨⟨⟨by omega, by omega⟩, by omega⟩, ?_⟩
    have e : (((s + 1 : Nat) : Int) - 1) = (s : Int) := by omega
    rw [e] at ih
    exact ih
theorem presL_claimed (g : G) (I : NGood g) (h1 : 1 ≤ g.n) (h2 : g.n ≤ 64) : claimedB g.n (presL g g.n) = true := by
  have := presL_ok g I g.n 0 (by omega)
  simp only [claimedB, Bool.and_eq_true, decide_eq_true_eq, presL_len]
  exact ⟨⟨h1, h2⟩, this⟩
theorem presL_ver (g : G) (I : NGood g) (k : Nat) : ∀ c ∈ presL g k, c.version = (g.items c.item).hist.length := by
  intro c hc
  simp only [presL, List.mem_map] at hc
  obtain ⟨j, _, rfl⟩ := hc
  exact I.inv.vh j
theorem claims_snoc (l : List Clm) (c : Clm) : claims (l ++ [c]) = claims l ++ [.int .i64 c.item, .int .i64 c.version] := by simp [claims, Clm.cells]
theorem Row.rdX {tag : Nat → Tag} {t : Tag} {w : World} {v : Value} {l : List Clm} (h : Row tag t 69 2 w v l.length (claims l)) (ht : t.1 = 0) : RdX tag w v l := by
  cases l with
  | nil =>
    obtain ⟨A, cap, rfl, _, h2⟩ := h.form
    exact .inr ⟨rfl, A, cap, rfl, h2⟩
  | cons c l =>
    refine .inl ⟨h.rd (claims_one _), fun b off m cap hv => ?_⟩
    obtain ⟨b', h1, h2, h3, _⟩ := h.cell hv (j := 0) (by simp [claims, Clm.cells])
    cases h1
    exact ⟨by rw [h2]; exact ht, h3⟩
theorem LiveP.places1 {tag : Nat → Tag} {w : World} {B p k : Nat} {g : G} (L : LiveP tag B w p g k) : 1 ≤ g.places := by obtain ⟨N, _, h⟩ := L.net; exact h.abs.p32.1
theorem doP_all {g : G} (I : NGood g) (h0 : 1 ≤ g.places) (h1 : 1 ≤ g.n) (h2 : g.n ≤ 64) : ∃ c, (presL g g.n)[0]? = some c ∧ doP g 0 (presL g g.n) = (g.proposeG 0 (presL g g.n) c, (g.np : Int), ([] : List Came), (0 : Int)) := by
  have hc := presL_claimed g I h1 h2
  obtain ⟨c, hc0⟩ := claimed_head hc
  refine ⟨c, hc0, ?_⟩
  rw [doP, if_neg (by omega), if_neg (by rw [hc]; decide), hc0]
theorem doP_nil {g : G} (h0 : 1 ≤ g.places) (h1 : g.n = 0) : doP g 0 (presL g g.n) = (g, (0 : Int), ([] : List Came), (270 : Int)) := by
  rw [doP, if_neg (by omega), if_pos (by rw [h1]; rfl)]
set_option pp.deepTerms true
set_option pp.maxSteps 1000000
set_option maxRecDepth 100000 in
set_option maxHeartbeats 6400000 in
theorem negoDropped_ok {tag : Nat → Tag} {w : World} {v vc : Value} {places prop : Int} {items choices : List Int} {l : List OpM} (h : WorldRd tag w v places items l) (hc : Rd 1 w vc choices.length (ints choices)) (hce : Ext tag w vc) (hok : TagOk tag w) :
    Calls Try.prog 10 #[v, .int .i64 prop, vc] w fun e w' => e = .returned (.bool true) ∧ ∃ tag', Fr (fun t => 1 ≤ t.1) tag tag' w w' := by
  have HS := fun {tag : Nat → Tag} {w : World} => @sane_ok tag w 1
  obtain ⟨vi, vl, rfl, hi, hie, hl⟩ := h.form
  obtain ⟨IA, icap, rfl, q1, q2⟩ := hi.slice
  obtain ⟨LA, lcap, rfl, q3, q4⟩ := hl.slice
  obtain ⟨CA, ccap, rfl, q5, q6⟩ := hc.slice
  unfold maxLen at q2 q6
  have hFa : Fr (fun _ => False) tag tag w (w.alloc (.cells #[.int .i64 places, .slice IA items.length icap, .slice LA l.length lcap] 75)) := Fr.alloc hok _
  have HFa := Lib.hid hFa
  have HW := Lib.hid (h.fr hFa (fun t h => h.elim))
  have HCR := Lib.hid (hc.frF hFa)
  have HCE := Lib.hid (hce.fr hFa)
  have hnew : (tag w.heap.size).1 = 0 := hok.new
  clear h hi hie hl hFa hc hce
  by_cases hb : fewB items.length l = false ∨ validB places items = false
  · have HB := Lib.hid hb
    clear hb
    go_enter Try.func10, Try.ntmps10
    go_wp2_with (first
    | (
      go_at_call 16
      refine (HS HFa.out.dom (by omega)).mono ?_
      rintro e w1 ⟨rfl, T1, hF1, hok1⟩
      have k0 : w1.cell? ⟨w.heap.size, 0, none⟩ = some (.int .i64 places) := hF1.cell (by go_simp) (by simp only [hnew]; omega)
      have k1 : w1.cell? ⟨w.heap.size, 1, none⟩ = some (.slice IA items.length icap) := hF1.cell (by go_simp) (by simp only [hnew]; omega)
      have k2 : w1.cell? ⟨w.heap.size, 2, none⟩ = some (.slice LA l.length lcap) := hF1.cell (by go_simp) (by simp only [hnew]; omega)
      have HT1 := Lib.hid (hF1.same w.heap.size (by simp))
      have HW1 := Lib.hid (HW.out.fr hF1 (fun t h => by omega))
      have HCR1 := Lib.hid (HCR.out.ext HCE.out hF1 (fun t h => by omega))
      have HCE1 := Lib.hid (HCE.out.fr hF1)
      have HF1 := Lib.hid ((HFa.out.mono (S' := fun t => 1 ≤ t.1) (fun _ h => h.elim)).trans (hF1.mono (fun t h => by omega)))
      clear hF1)
    | (
      go_at_call 39
      refine (begun_no HW1.out HF1.out.dom HB.out).mono ?_
      rintro e w2 ⟨rfl, hF2⟩
      have HF2 := Lib.hid (HF1.out.trans (hF2.mono (fun _ h => h.elim)))
      clear hF2))
    go_ret
    exact ⟨rfl, T1, HF2.out⟩
  · simp only [not_or, Bool.not_eq_false] at hb
    obtain ⟨hb1, hb2⟩ := hb
    have HB1 := Lib.hid hb1
    have HB2 := Lib.hid hb2
    have hn0 : (runG (beginG places.toNat items) l).n = items.length := by rw [runG_same]; rfl
    clear hb1 hb2
    by_cases hmany : 2000 < choices.length
    · have i8 : decide ((2000 : Int) < (choices.length : Int)) = true := decide_eq_true (by omega)
      clear hmany
      go_enter Try.func10, Try.ntmps10
      go_wp2_with (first
      | (
      go_at_call 16
      refine (HS HFa.out.dom (by omega)).mono ?_
      rintro e w1 ⟨rfl, T1, hF1, hok1⟩
      have k0 : w1.cell? ⟨w.heap.size, 0, none⟩ = some (.int .i64 places) := hF1.cell (by go_simp) (by simp only [hnew]; omega)
      have k1 : w1.cell? ⟨w.heap.size, 1, none⟩ = some (.slice IA items.length icap) := hF1.cell (by go_simp) (by simp only [hnew]; omega)
      have k2 : w1.cell? ⟨w.heap.size, 2, none⟩ = some (.slice LA l.length lcap) := hF1.cell (by go_simp) (by simp only [hnew]; omega)
      have HT1 := Lib.hid (hF1.same w.heap.size (by simp))
      have HW1 := Lib.hid (HW.out.fr hF1 (fun t h => by omega))
      have HCR1 := Lib.hid (HCR.out.ext HCE.out hF1 (fun t h => by omega))
      have HCE1 := Lib.hid (HCE.out.fr hF1)
      have HF1 := Lib.hid ((HFa.out.mono (S' := fun t => 1 ≤ t.1) (fun _ h => h.elim)).trans (hF1.mono (fun t h => by omega)))
      clear hF1)
      | (
      go_at_call 39
      refine (p_begun 100 HW1.out HF1.out.dom (by omega) HB1.out HB2.out).mono ?_
      rintro e w2 ⟨p, rfl, T2, hL2, hF2⟩
      have m1 : w2.cell? ⟨w.heap.size, 1, none⟩ = some (.slice IA items.length icap) := hF2.cell k1 (by simp only [HT1.out, hnew]; omega)
      have HT2 := Lib.hid ((hF2.same w.heap.size (World.block_lt_of_cell? w1 _ k0)).trans HT1.out)
      have HL2 := Lib.hid hL2
      have HCR2 := Lib.hid (HCR1.out.ext HCE1.out hF2 (fun t h => by omega))
      have HCE2 := Lib.hid (HCE1.out.fr hF2)
      have HF2 := Lib.hid (HF1.out.trans (hF2.mono (fun t h => by omega)))
      clear hF2 hL2 k0 k1 k2))
      go_ret
      exact ⟨rfl, T2, HF2.out⟩
    · have i8 : decide ((2000 : Int) < (choices.length : Int)) = false := decide_eq_false (by omega)
      have hc2000 : choices.length ≤ 2000 := by omega
      clear hmany
      have HN0 := Lib.hid hn0
      clear hn0
      go_enter Try.func10, Try.ntmps10
      go_upto_region 8 with (first
      | (
      go_at_call 16
      refine (HS HFa.out.dom (by omega)).mono ?_
      rintro e w1 ⟨rfl, T1, hF1, hok1⟩
      have k0 : w1.cell? ⟨w.heap.size, 0, none⟩ = some (.int .i64 places) := hF1.cell (by go_simp) (by simp only [hnew]; omega)
      have k1 : w1.cell? ⟨w.heap.size, 1, none⟩ = some (.slice IA items.length icap) := hF1.cell (by go_simp) (by simp only [hnew]; omega)
      have k2 : w1.cell? ⟨w.heap.size, 2, none⟩ = some (.slice LA l.length lcap) := hF1.cell (by go_simp) (by simp only [hnew]; omega)
      have HT1 := Lib.hid (hF1.same w.heap.size (by simp))
      have HW1 := Lib.hid (HW.out.fr hF1 (fun t h => by omega))
      have HCR1 := Lib.hid (HCR.out.ext HCE.out hF1 (fun t h => by omega))
      have HCE1 := Lib.hid (HCE.out.fr hF1)
      have HF1 := Lib.hid ((HFa.out.mono (S' := fun t => 1 ≤ t.1) (fun _ h => h.elim)).trans (hF1.mono (fun t h => by omega)))
      clear hF1)
      | (
      go_at_call 39
      refine (p_begun 100 HW1.out HF1.out.dom (by omega) HB1.out HB2.out).mono ?_
      rintro e w2 ⟨p, rfl, T2, hL2, hF2⟩
      have m1 : w2.cell? ⟨w.heap.size, 1, none⟩ = some (.slice IA items.length icap) := hF2.cell k1 (by simp only [HT1.out, hnew]; omega)
      have HT2 := Lib.hid ((hF2.same w.heap.size (World.block_lt_of_cell? w1 _ k0)).trans HT1.out)
      have HL2 := Lib.hid hL2
      have HCR2 := Lib.hid (HCR1.out.ext HCE1.out hF2 (fun t h => by omega))
      have HCE2 := Lib.hid (HCE1.out.fr hF2)
      have HF2 := Lib.hid (HF1.out.trans (hF2.mono (fun t h => by omega)))
      clear hF2 hL2 k0 k1 k2))
      obtain ⟨j0, hj, hy0, hy1, hy2⟩ := info_parts Try.info69
      generalize runG (beginG places.toNat items) l = g at HL2 HN0
      obtain ⟨er, her⟩ : ∃ x, x = (doD g prop).2.2.2 := ⟨_, rfl⟩
      have HER := Lib.hid her
      by_cases hz : er = 0
      · have hd := doD_ok (g := g) (n := prop) (by rw [← her]; exact hz)
        have hsame := doD_same (g := g) prop
        obtain ⟨g1, hg1⟩ : ∃ x, x = (doD g prop).1 := ⟨_, rfl⟩
        rw [← hg1] at hd hsame
        have HG1 := Lib.hid hg1
        obtain ⟨hp0, hp1, _, hst4⟩ := hd
        obtain ⟨pn, rfl⟩ : ∃ pn : Nat, prop = pn := ⟨prop.toNat, by omega⟩
        have hn1 : g1.n = items.length := hsame.1.trans HN0.out
        have hpn1 : pn < g1.np := by rw [hsame.2.1]; omega
        have HN1 := Lib.hid hn1
        have HPN1 := Lib.hid hpn1
        have HST4 := Lib.hid hst4
        clear her hg1 hsame hp0 hp1 hst4 hn1 hpn1
        subst hz
        go_upto_region 12 with (first
        | (
          go_at_call 52
          refine (p_drop (n := (pn : Int)) HL2.out (by decide)).mono ?_
          rw [← HER.out]
          rintro e w3 ⟨rfl, hD⟩
          obtain ⟨T3, hL3, _, hF3⟩ := hD.did
          rw [← HG1.out] at hL3
          have m3 : w3.cell? ⟨w.heap.size, 1, none⟩ = some (.slice IA items.length icap) := hF3.cell m1 (by simp only [HT2.out, hnew]; omega)
          have HT3 := Lib.hid ((hF3.same w.heap.size (World.block_lt_of_cell? w2 _ m1)).trans HT2.out)
          have HL3 := Lib.hid hL3
          have HCR3 := Lib.hid (HCR2.out.ext HCE2.out hF3 (fun t h => by omega))
          have HCE3 := Lib.hid (HCE2.out.fr hF3)
          have HF3 := Lib.hid (HF2.out.trans (hF3.mono (fun t h => by omega)))
          clear hF3 hL3 hD m1)
        | (
          go_at_call 37
          refine (calm_ok choices HL3.out (by decide) HCR3.out HCE3.out (by omega)).mono ?_
          rintro e w4 ⟨rfl, mc, T4, hfl, hm, hL4, hF4⟩
          have m4 : w4.cell? ⟨w.heap.size, 1, none⟩ = some (.slice IA items.length icap) := hF4.cell m3 (by simp only [HT3.out, hnew]; omega)
          have HL4 := Lib.hid hL4
          have HFL := Lib.hid hfl
          have HF4 := Lib.hid (HF3.out.trans (hF4.mono (fun t h => by omega)))
          have HT4 := Lib.hid ((hF4.same w.heap.size (World.block_lt_of_cell? w3 _ m3)).trans HT3.out)
          clear hL4 hfl hF4 m3 hm))
        have hs4 := drop_calm (g := g1) choices HST4.out mc
        have hcn := calmN_n choices g1 mc
        generalize (calmN choices g1 mc).1 = g2 at HL4 HFL hs4 hcn
        have hn2 : g2.n = items.length := hcn.1.trans HN1.out
        have hpn2 : pn < g2.np := by rw [hcn.2.1]; exact HPN1.out
        have HN2 := Lib.hid hn2
        have HPN2 := Lib.hid hpn2
        have HS4 := Lib.hid hs4
        have HST := Lib.hid (still_of HFL.out)
        obtain ⟨MM, hMM⟩ := tag_max T4 w4.heap.size
        have hPV := p_versions HL4.out (600, 0, MM) (fun b hb e => by have := hMM b hb; rw [e] at this; simp at this) (.inr (show 132 < 600 by decide)) (show 600 ≠ 0 by decide)
        rw [hn2] at hPV
        have HPV := Lib.hid hPV
        have hn64 : items.length ≤ 64 := by rw [← hn2]; exact HL4.out.n64
        clear hMM hPV hs4 hcn hn2 hpn2
        go_wp2_with (first
        | (
          go_at_call 53
          refine HPV.out.mono ?_
          rintro e w5 ⟨v5, rfl, T5, hrow, hF5⟩
          obtain ⟨A5, c5, rfl, y3, y4⟩ := hrow.form
          unfold maxLen at y4
          have HV5 := Lib.hid hrow
          have m5 : w5.cell? ⟨w.heap.size, 1, none⟩ = some (.slice IA items.length icap) := hF5.cellF m4
          have HL5 := Lib.hid (HL4.out.frF hF5)
          have HF5 := Lib.hid (HF4.out.trans (hF5.mono (fun _ h => h.elim)))
          clear hrow hF5 m4)
        | (
          go_at_call 38
          refine (p_status (n := pn) HL5.out HPN2.out).mono ?_
          rw [HS4.out]
          rintro e w6 ⟨rfl, hF6⟩
          have m6 : w6.cell? ⟨w.heap.size, 1, none⟩ = some (.slice IA items.length icap) := hF6.cellF m5
          have HV6 := Lib.hid (HV5.out.fr hF6 (fun x => x))
          have HL6 := Lib.hid (HL5.out.frF hF6)
          have HF6 := Lib.hid (HF5.out.trans (hF6.mono (fun _ h => h.elim)))
          clear hF6 m5))
        obtain ⟨M2, hM2⟩ := tag_max T5 w6.heap.size
        have HM2 : Hid (∀ b, b < w6.heap.size → T5 b ≠ ((0, 5, M2) : Tag)) := Lib.hid (fun b hb e => by have := hM2 b hb; rw [e] at this; simp at this)
        clear hM2
        go_loopw [74, 13] (fun i a wr => ∃ k : Nat, k ≤ items.length ∧ i = .int .i64 k ∧ ∃ A2 cap2, a = .slice A2 k cap2 ∧ ∃ Tr : Nat → Tag, Hid (Row Tr (0, 5, M2) 69 2 wr (.slice A2 k cap2) k (claims (presL g2 k))) ∧ Hid (Fr (fun t => t = (0, 5, M2)) T5 Tr w6 wr)) (fun i _ _ => items.length - (intOf i).toNat)
        case atStart => exact ⟨0, Nat.zero_le _, rfl, none, 0, rfl, T5, Lib.hid (Row.nil _ _ _ _ _), Lib.hid (Fr.refl HF6.out.dom)⟩
        case round =>
          obtain ⟨k, hk, rfl, A2, cap2, rfl, Tr, HR, HG⟩ := hrel
          have HF := Lib.hid (HG.out.fresh HM2.out)
          by_cases hkt : k < items.length
          · have HJ : Hid (k < g2.n) := Lib.hid (by rw [HN2.out]; exact hkt)
            have hfree := still_free HL6.out.good.inv HST.out k
            have hhl : (g2.items k).hist.length ≤ 81 := by have := hist_len HL6.out.good k; have := HL6.out.np; omega
            have hno : decide ((pn : Int) ∈ (g2.items k).hist) = false := decide_eq_false (fun hm => by
              have := HL6.out.good.inv.ch _ _ hm
              have := HS4.out
              omega)
            obtain ⟨hs, hhs⟩ : ∃ x, x = (g2.items k).hist := ⟨_, rfl⟩
            obtain ⟨ver, hver⟩ : ∃ x, x = (g2.items k).ver := ⟨_, rfl⟩
            rw [← hhs] at hhl hno
            have HHS := Lib.hid hhs
            have HNO := Lib.hid hno
            have HFREE := Lib.hid hfree
            have HVR := Lib.hid hver
            obtain ⟨b5, rfl, _, _, hcell⟩ := (HV6.out.fr HF.out (fun x => x)).cell rfl (j := k) (by simp [ints, versG_len]; exact hkt)
            have e5 : wr.cell? ⟨b5, k, none⟩ = some (.int .i64 ver) := by rw [hcell, ints, List.getElem?_map, versG_get g2 hkt, ← HVR.out]; rfl
            have i1 : (0 : Int) ≤ (k : Int) := by omega
            have i2 : (k : Int) < (items.length : Int) := by omega
            clear hhs hver hno hfree hcell
            go_wp2_with (first
            | (
              go_at_call 49
              refine (p_history (j := k) (300, 0, 0) (HL6.out.frF HF.out) HJ.out (by decide)).mono ?_
              rw [← HHS.out]
              rintro e w7 ⟨v7, rfl, T7, hrow, hF7⟩
              obtain ⟨A7, c7, rfl, y5, y6⟩ := hrow.form
              unfold maxLen at y6
              have e7 := hF7.cellF e5
              have HR7 := Lib.hid (HR.out.fr hF7 (fun x => x))
              have HH7 := Lib.hid hrow
              have HF67 := Lib.hid (HF.out.trans hF7)
              have HG7 := Lib.hid (HG.out.trans (hF7.mono (fun _ h => h.elim)))
              clear hF7 hrow)
            | (
              go_at_call 41
              refine (p_holder (j := k) (HL6.out.frF HF67.out) HJ.out).mono ?_
              rw [show holdI (g2.items k) = -1 from by rw [holdI, HFREE.out.1]]
              rintro e w8 ⟨rfl, hF8⟩
              have e8 := hF8.cellF e7
              have HR8 := Lib.hid (HR7.out.fr hF8 (fun x => x))
              have HH8 := Lib.hid (HH7.out.fr hF8 (fun x => x))
              have HG8 := Lib.hid (HG7.out.trans (hF8.mono (fun _ h => h.elim)))
              clear hF8)
            | (
              go_at_call 51
              refine (containsN_ok hs (pn : Int) w8 (HH8.out.rd (ints_one _)) (by omega)).mono ?_
              rw [HNO.out]
              rintro e w' ⟨rfl, hw⟩
              replace hw := hw.symm
              subst hw)
            | (
              go_at_call 54
              refine (claim_ok (k : Int) ver HG8.out.dom).mono ?_
              rintro e w9 ⟨rfl, hF9⟩
              have HR9 := Lib.hid (HR8.out.fr hF9 (fun x => x))
              have HG9 := Lib.hid (HG8.out.trans (hF9.mono (fun _ h => h.elim)))
              have hok9 := hF9.dom
              clear hF9)
            | (
              at_builtin
              refine append_list rfl (.tmp 104) (.tmp 111) 34 rfl (by rfl) (by rfl) (HR9.out.alloc _) (hok9.alloc _) Try.underlying34 hj hy0 hy1 hy2 rfl (by decide) [.int .i64 (k : Int), .int .i64 ver] rfl (news_at (Go.Ng.heap_alloc_at _ _)) (by simp [Value.oneCell']) (by decide) (by unfold maxLen; omega) (by omega) ?_
              intro g3 cap3 w10 T10 hrow hfr
              have HROW := Lib.hid hrow
              have HF10 := Lib.hid hfr
              clear hrow hfr))
            go_roundw
            case rel =>
              refine ⟨k + 1, by omega, by go_num, _, _, rfl, T10, Lib.hid ?_, Lib.hid ((HG9.out.al _).trans HF10.out)⟩
              rw [presL_snoc, claims_snoc, ← HVR.out]
              exact HROW.out
            case measure => simp [intOf]; omega
          · have hkk : k = items.length := by omega
            subst hkk
            have hL := HL6.out.frF HF.out
            have hX : RdX Tr wr (.slice A2 items.length cap2) (presL g2 g2.n) := by
              have := HR.out
              rw [← HN2.out] at this ⊢
              have h2 : (presL g2 g2.n).length = g2.n := presL_len _ _
              rw [← h2] at this
              rw [h2] at this
              exact Row.rdX (t := (0, 5, M2)) (by rw [h2]; exact this) rfl
            have HL7 := Lib.hid hL
            have HX := Lib.hid hX
            have HFx := Lib.hid (HF6.out.trans (HF.out.mono (S' := fun t => 1 ≤ t.1) (fun _ h => h.elim)))
            obtain ⟨hA2, hA3⟩ : items.length ≤ cap2 ∧ cap2 ≤ maxLen := by
              obtain ⟨A', c', h1, h2, h3⟩ := HR.out.form
              injection h1 with _ _ h1
              subst h1
              exact ⟨h2, h3⟩
            unfold maxLen at hA3
            clear hL hX
            by_cases hz : items.length = 0
            · have hdp := doP_nil (g := g2) HL7.out.places1 (by rw [HN2.out]; exact hz)
              have hPP := p_propose (n := 0) HL7.out (by decide) HX.out
              rw [hdp] at hPP
              have HPP := Lib.hid hPP
              clear hPP
              have i3 : ((items.length : Int) == 0) = true := by simp [hz]
              clear hdp hz
              go_wp2_with (
                go_at_call 55
                refine HPP.out.mono ?_
                rintro e w11 ⟨cv, rfl, hD⟩
                obtain ⟨T11, hL11, hcv, hF11⟩ := hD.did
                obtain ⟨A11, c11, rfl, _, _⟩ := hcv.slice
                have HF11 := Lib.hid (HFx.out.trans (hF11.mono (fun t h => by omega)))
                clear hL11 hF11 hD hcv)
              go_ret
              exact ⟨rfl, T11, HF11.out⟩
            · obtain ⟨c0, hc0, hdp⟩ := doP_all HL7.out.good HL7.out.places1 (by rw [HN2.out]; omega) (by rw [HN2.out]; exact hn64)
              have hah := ahead_doP (Ahead.init HL7.out.good HST.out) 0 (presL_ver g2 HL7.out.good g2.n)
              rw [hdp] at hah
              have hPP := p_propose (n := 0) HL7.out (by decide) HX.out
              rw [hdp] at hPP
              have HPP := Lib.hid hPP
              clear hPP
              obtain ⟨g3, hg3⟩ : ∃ x, x = g2.proposeG 0 (presL g2 g2.n) c0 := ⟨_, rfl⟩
              have hnp3 : g3.np = g2.np + 1 := by rw [hg3]; rfl
              simp only at hah
              rw [← hg3] at hah
              have HG3 := Lib.hid hg3
              have HAH := Lib.hid hah
              have HNP3 := Lib.hid hnp3
              have HNG := Lib.hid HL7.out.good
              clear hdp hc0 hg3 hah hnp3 hz
              go_wp2_with (first
              | (
                go_at_call 55
                refine HPP.out.mono ?_
                rintro e w11 ⟨cv, rfl, hD⟩
                obtain ⟨T11, hL11, hcv, hF11⟩ := hD.did
                obtain ⟨A11, c11, rfl, _, _⟩ := hcv.slice
                simp only at hL11
                rw [← HG3.out] at hL11
                have HL11 := Lib.hid hL11
                have HF11 := Lib.hid (HFx.out.trans (hF11.mono (fun t h => by omega)))
                clear hL11 hF11 hD hcv)
              | (
                go_at_call 37
                refine (calm_ok [] HL11.out (by decide) (v := .slice none 0 0) ⟨rfl, by simp [ints], .inl ⟨rfl, rfl⟩⟩ (fun b off m cap h => by cases h) (by simp)).mono ?_
                rintro e w12 ⟨rfl, mc2, T12, hfl, hm, hL12, hF12⟩
                have hah4 := ahead_calm HAH.out HNG.out HST.out [] mc2
                have hnp4 := (calmN_n [] g3 mc2).2.1
                have hst := hah4.one HNG.out HST.out (still_of hfl) (by rw [hnp4, HNP3.out])
                have HLT : Hid (g2.np < (calmN [] g3 mc2).1.np) := Lib.hid (by rw [hnp4, HNP3.out]; omega)
                have HS12 := Lib.hid hst
                have HL12 := Lib.hid hL12
                have HF12 := Lib.hid (HF11.out.trans (hF12.mono (fun t h => by omega)))
                clear hL12 hfl hF12 hm hah4 hnp4 hst)
              | (
                go_at_call 38
                refine (p_status (n := g2.np) HL12.out HLT.out).mono ?_
                rw [HS12.out]
                rintro e w13 ⟨rfl, hF13⟩
                have HF13 := Lib.hid (HF12.out.trans (hF13.mono (fun _ h => h.elim)))
                clear hF13))
              go_ret
              exact ⟨rfl, T12, HF13.out⟩
      · have i9 : (er != 0) = true := by simpa using hz
        clear hz her
        go_wp2_with (
          go_at_call 52
          refine (p_drop (n := prop) HL2.out (by decide)).mono ?_
          rw [← HER.out]
          rintro e w3 ⟨rfl, hD⟩
          obtain ⟨T3, hL3, _, hF3⟩ := hD.did
          have HF3 := Lib.hid (HF2.out.trans (hF3.mono (fun t h => by omega)))
          clear hF3 hL3 hD)
        go_ret
        exact ⟨rfl, T3, HF3.out⟩
end Go.Proofs.Ytclkokkppgchfaa

/- NegoProgress's closure: a claim of a version that its item does not have. -/
namespace Go.Proofs.Ytclkokkppgchfaa
open Go.RowKit Go.Ng Go.Proofs.YtclkokkppgchfaaW.PrintLast
set_option linter.unusedSimpArgs false
set_option linter.unusedVariables false
def badV (vs : List Int) (c : Clm) : Prop := ∃ x, vs[c.item.toNat]? = some x ∧ c.version ≠ x
set_option maxRecDepth 100000 in
set_option maxHeartbeats 1600000 in
theorem stale1_ok {tag : Nat → Tag} {w : World} {A : Option Addr} {cap n j : Nat} {vs : List Int} {t : Tag} (bt : Nat) (b x : Int) (hb : w.cell? ⟨bt, 0, none⟩ = some (.slice A n cap)) (hbl : bt < w.heap.size) (hr : Row tag t 3 1 w (.slice A n cap) n (ints vs)) (hj : j < n) (hx : vs[j]? = some x) (hok : TagOk tag w) :
    Calls Try.prog 57 #[.agg #[.int .i64 (j : Int), .int .i64 b], .pointer (some ⟨bt, 0, none⟩)] w fun e w' => e = .returned (.bool (b != x)) ∧ Fr (fun _ => False) tag tag w w' := by
  have hlen : vs.length = n := by have := hr.len; simpa [ints] using this
  obtain ⟨b5, rfl, _, _, hcell⟩ := hr.cell rfl (j := j) (by simp [ints]; omega)
  have e5 : w.cell? ⟨b5, j, none⟩ = some (.int .i64 x) := by rw [hcell, ints, List.getElem?_map, hx]; rfl
  have i1 : (0 : Int) ≤ (j : Int) := by omega
  have i2 : (j : Int) < (n : Int) := by omega
  have i3 : decide ((0 : Int) ≤ (j : Int)) = true := decide_eq_true i1
  have i4 : decide ((j : Int) < (n : Int)) = true := decide_eq_true i2
  clear hcell hr hx
  go_enter Try.func57, Try.ntmps57
  go_wp2_with fail
  go_quiet (fail)
  go_wp2_with fail
  go_ret
  exact ⟨rfl, (Fr.alloc hok _).dN _⟩
set_option maxRecDepth 100000 in
set_option maxHeartbeats 1600000 in
theorem staleI_ok {tag : Nat → Tag} {w : World} {A : Option Addr} {cap n : Nat} {v : Value} {vs : List Int} {t : Tag} {l : List Clm} (bt : Nat) (hb : w.cell? ⟨bt, 0, none⟩ = some (.slice A n cap)) (hbl : bt < w.heap.size) (hr : Row tag t 3 1 w (.slice A n cap) n (ints vs)) (hl : Rd 2 w v l.length (claims l)) (hll : l.length ≤ 1000000) (hc : ∀ c ∈ l, 0 ≤ c.item ∧ c.item < n) (hok : TagOk tag w) :
    Calls Try.prog 98 #[v, .func (.func 57) #[] #[.pointer (some ⟨bt, 0, none⟩)]] w fun e w' => ∃ i : Int, e = .returned (.int .i64 i) ∧ ((0 ≤ i ∧ ∃ c ∈ l, badV vs c) ∨ (i = -1 ∧ ∀ c ∈ l, ¬ badV vs c)) ∧ Fr (fun _ => False) tag tag w w' := by
  have hlen : vs.length = n := by have := hr.len; simpa [ints] using this
  obtain ⟨LA, lcap, rfl, h1, h2⟩ := hl.slice
  unfold maxLen at h2
  have HR := Lib.hid hr
  have HL := Lib.hid hl
  have HC := Lib.hid hc
  have HLEN := Lib.hid hlen
  clear hr hl hc hlen
  go_enter Try.func98, Try.ntmps98
  go_wp2_with fail
  go_loopw [8] (fun i wr => ∃ m : Nat, m ≤ l.length ∧ i = .int .i64 m ∧ Hid (∀ i < m, ∀ c, l[i]? = some c → ¬ badV vs c) ∧ Hid (Fr (fun _ => False) tag tag w wr)) (fun i _ => l.length - (intOf i).toNat)
  case atStart => exact ⟨0, Nat.zero_le _, rfl, Lib.hid (fun i h => by omega), Lib.hid (Fr.refl hok)⟩
  case round =>
    obtain ⟨m, hm, rfl, HNO, HFr⟩ := hrel
    by_cases hlt : m < l.length
    · obtain ⟨⟨ci, cv⟩, hx⟩ : ∃ c, l[m]? = some c := ⟨_, List.getElem?_eq_getElem hlt⟩
      have hci : 0 ≤ ci ∧ ci < n := HC.out _ (List.mem_of_getElem? hx)
      obtain ⟨jn, rfl⟩ : ∃ jn : Nat, ci = jn := ⟨ci.toNat, by omega⟩
      have hjn : jn < n := by omega
      obtain ⟨x, hvx⟩ : ∃ x, vs[jn]? = some x := ⟨_, List.getElem?_eq_getElem (by have := HLEN.out; omega)⟩
      obtain ⟨ab, aoff, acap', he, _, _, hac⟩ := Rd.elem (enc := Clm.cells) HL.out (fun _ => rfl) (by decide) hx
      injection he with he _ he2
      subst he he2
      have a0 : wr.cell? ⟨ab, aoff + m * 2, none⟩ = some (.int .i64 jn) := HFr.out.cellF (hac 0 _ rfl)
      have a1 : wr.cell? ⟨ab, aoff + m * 2 + 1, none⟩ = some (.int .i64 cv) := HFr.out.cellF (hac 1 _ rfl)
      have i1 : (0 : Int) ≤ (m : Int) := by omega
      have i2 : (m : Int) < (l.length : Int) := by omega
      have HS := Lib.hid (stale1_ok bt cv x (HFr.out.cellF hb) (Nat.lt_of_lt_of_le hbl HFr.out.size) (HR.out.fr HFr.out (fun x => x)) hjn hvx HFr.out.dom)
      have HX := Lib.hid hx
      have HVX := Lib.hid hvx
      clear hac hx hvx hci
      by_cases hq : cv = x
      · have q0 : (cv != x) = false := by simp [hq]
        rw [q0] at HS
        have HQ := Lib.hid hq
        clear hq
        go_wp2_with (
          go_at_call 57
          refine HS.out.mono ?_
          rintro e w1 ⟨rfl, hF1⟩
          have HF1 := Lib.hid (HFr.out.trans hF1)
          clear hF1)
        go_roundw
        case rel => exact ⟨m + 1, by omega, by go_num, Lib.hid (fun i hi c hc ⟨y, hy, hne⟩ => by
          rcases Nat.lt_succ_iff_lt_or_eq.1 hi with h | h
          · exact HNO.out i h c hc ⟨y, hy, hne⟩
          · subst h
            rw [HX.out] at hc
            injection hc with hc
            subst hc
            simp only [Int.toNat_natCast] at hy
            rw [HVX.out] at hy
            injection hy with hy
            exact hne (by rw [← hy]; exact HQ.out)), HF1⟩
        case measure => simp [intOf]; omega
      · have q0 : (cv != x) = true := by simpa using hq
        rw [q0] at HS
        have HQ := Lib.hid hq
        clear hq
        go_wp2_with (
          go_at_call 57
          refine HS.out.mono ?_
          rintro e w1 ⟨rfl, hF1⟩
          have HF1 := Lib.hid (HFr.out.trans hF1)
          clear hF1)
        go_ret
        exact ⟨m, rfl, .inl ⟨by omega, _, List.mem_of_getElem? HX.out, x, by simp only [Int.toNat_natCast]; exact HVX.out, HQ.out⟩, HF1.out⟩
    · have hmm : m = l.length := by omega
      subst hmm
      go_wp2_with fail
      go_ret
      refine ⟨-1, rfl, .inr ⟨rfl, fun c hc => ?_⟩, HFr.out⟩
      obtain ⟨i, hi⟩ := List.getElem?_of_mem hc
      exact HNO.out i (List.getElem?_eq_some_iff.1 hi).1 _ hi
set_option maxRecDepth 100000 in
set_option maxHeartbeats 1600000 in
theorem stale_ok {tag : Nat → Tag} {w : World} {A : Option Addr} {cap n : Nat} {v : Value} {vs : List Int} {t : Tag} {l : List Clm} (bt : Nat) (hb : w.cell? ⟨bt, 0, none⟩ = some (.slice A n cap)) (hbl : bt < w.heap.size) (hr : Row tag t 3 1 w (.slice A n cap) n (ints vs)) (hl : Rd 2 w v l.length (claims l)) (hll : l.length ≤ 1000000) (hc : ∀ c ∈ l, 0 ≤ c.item ∧ c.item < n) (hbad : ∃ c ∈ l, badV vs c) (hok : TagOk tag w) :
    Calls Try.prog 35 #[v, .func (.func 57) #[] #[.pointer (some ⟨bt, 0, none⟩)]] w fun e w' => e = .returned (.bool true) ∧ Fr (fun _ => False) tag tag w w' := by
  have HS := Lib.hid (staleI_ok bt hb hbl hr hl hll hc hok)
  have HB := Lib.hid hbad
  clear hb hbl hr hl hc hbad
  go_enter Try.func35, Try.ntmps35
  go_wp2_with (
    go_at_call 98
    refine HS.out.mono ?_
    rintro e w1 ⟨i, rfl, hi, hF1⟩
    have hi0 : 0 ≤ i := by
      rcases hi with hi | hi
      · exact hi.1
      · obtain ⟨c, h1, h2⟩ := HB.out
        exact absurd h2 (hi.2 c h1)
    have HF1 := Lib.hid hF1
    clear hi hF1)
  go_ret
  exact ⟨by simp [hi0], HF1.out⟩
end Go.Proofs.Ytclkokkppgchfaa

/- NegoProgress: the walk. -/
namespace Go.Proofs.Ytclkokkppgchfaa
open Go.RowKit Go.Ng Go.Proofs.YtclkokkppgchfaaW.PrintLast
set_option linter.unusedSimpArgs false
set_option linter.unusedVariables false
/-- The claims whose items there are, with the present versions. -/
def selC (g0 : G) (n : Nat) (c : Clm) : Option Clm := if 0 ≤ c.item ∧ c.item < n then some ⟨c.item, (g0.items c.item).ver⟩ else none
def filtL (g0 : G) (n : Nat) (cs : List Clm) : List Clm := cs.filterMap (selC g0 n)
theorem filtL_len (g0 : G) (n : Nat) (cs : List Clm) : (filtL g0 n cs).length ≤ cs.length := List.length_filterMap_le _ _
theorem filtL_ver (g0 : G) (I : NGood g0) (n : Nat) (cs : List Clm) : ∀ c ∈ filtL g0 n cs, c.version = (g0.items c.item).hist.length := by
  intro c hc
  simp only [filtL, List.mem_filterMap] at hc
  obtain ⟨d, _, hd⟩ := hc
  unfold selC at hd
  split at hd
  · injection hd with hd
    subst hd
    exact I.inv.vh d.item
  · cases hd
theorem filtL_yes (g0 : G) (n : Nat) {cs : List Clm} {j : Nat} {c : Clm} (hc : cs[j]? = some c) (h : 0 ≤ c.item ∧ c.item < n) : filtL g0 n (cs.take (j + 1)) = filtL g0 n (cs.take j) ++ [⟨c.item, (g0.items c.item).ver⟩] := by
  obtain ⟨hj, he⟩ := List.getElem?_eq_some_iff.1 hc
  rw [List.take_succ_eq_append_getElem hj, he, filtL, filtL, List.filterMap_append]
  congr 1
  simp [selC, h]
theorem filtL_no (g0 : G) (n : Nat) {cs : List Clm} {j : Nat} {c : Clm} (hc : cs[j]? = some c) (h : ¬ (0 ≤ c.item ∧ c.item < n)) : filtL g0 n (cs.take (j + 1)) = filtL g0 n (cs.take j) := by
  obtain ⟨hj, he⟩ := List.getElem?_eq_some_iff.1 hc
  rw [List.take_succ_eq_append_getElem hj, he, filtL, filtL, List.filterMap_append]
  have : List.filterMap (selC g0 n) [c] = [] := by simp [selC, h]
  rw [this, List.append_nil]
theorem doP_np (g : G) (n : Int) (l : List Clm) : ((doP g n l).2.2.2 = 0 ∧ (doP g n l).1.np = g.np + 1) ∨ ((doP g n l).2.2.2 ≠ 0 ∧ (doP g n l).1 = g) := by
  unfold doP
  split
  · exact .inr ⟨by simp, rfl⟩
  · split
    · exact .inr ⟨by simp, rfl⟩
    · split
      · exact .inl ⟨rfl, rfl⟩
      · exact .inr ⟨by simp, rfl⟩
theorem few_claims {n : Nat} {l : List OpM} (h : fewB n l = true) {o : OpM} (ho : o ∈ l) : o.claims.length ≤ 100 := by
  simp only [fewB, Bool.and_eq_true, Bool.not_eq_true', List.any_eq_false] at h
  have := h.2 o ho
  simp only [bigO, decide_eq_true_eq] at this
  omega
set_option pp.deepTerms true
set_option pp.maxSteps 1000000
set_option maxRecDepth 100000 in
set_option maxHeartbeats 12800000 in
theorem negoProgress_ok {tag : Nat → Tag} {w : World} {v vo vc : Value} {places : Int} {items choices : List Int} {l more : List OpM} (h : WorldRd tag w v places items l) (ho : OpsRd tag w vo more) (hc : Rd 1 w vc choices.length (ints choices)) (hce : Ext tag w vc) (hok : TagOk tag w) :
    Calls Try.prog 11 #[v, vo, vc] w fun e w' => e = .returned (.bool true) ∧ ∃ tag', Fr (fun t => 1 ≤ t.1) tag tag' w w' := by
  have HS := fun {tag : Nat → Tag} {w : World} => @sane_ok tag w 1
  obtain ⟨vi, vl, rfl, hi, hie, hl⟩ := h.form
  obtain ⟨IA, icap, rfl, q1, q2⟩ := hi.slice
  obtain ⟨LA, lcap, rfl, q3, q4⟩ := hl.slice
  obtain ⟨CA, ccap, rfl, q5, q6⟩ := hc.slice
  obtain ⟨OA, ocap, rfl, q7, q8⟩ := ho.slice
  unfold maxLen at q2 q6 q8
  have hFa : Fr (fun _ => False) tag tag w (w.alloc (.cells #[.int .i64 places, .slice IA items.length icap, .slice LA l.length lcap] 75)) := Fr.alloc hok _
  have HFa := Lib.hid hFa
  have HW := Lib.hid (h.fr hFa (fun t h => h.elim))
  have HCR := Lib.hid (hc.frF hFa)
  have HCE := Lib.hid (hce.fr hFa)
  have HO := Lib.hid (ho.fr hFa (fun t h => h.elim))
  have HI := Lib.hid (hi.frF hFa)
  have HIE := Lib.hid (hie.fr hFa)
  have hnew : (tag w.heap.size).1 = 0 := hok.new
  clear h hi hie hl hFa hc hce ho
  by_cases hb : fewB items.length l = false ∨ validB places items = false
  · have HB := Lib.hid hb
    clear hb
    go_enter Try.func11, Try.ntmps11
    go_wp2_with (first
    | (
      go_at_call 16
      refine (HS HFa.out.dom (by omega)).mono ?_
      rintro e w1 ⟨rfl, T1, hF1, hok1⟩
      have k0 : w1.cell? ⟨w.heap.size, 0, none⟩ = some (.int .i64 places) := hF1.cell (by go_simp) (by simp only [hnew]; omega)
      have k1 : w1.cell? ⟨w.heap.size, 1, none⟩ = some (.slice IA items.length icap) := hF1.cell (by go_simp) (by simp only [hnew]; omega)
      have k2 : w1.cell? ⟨w.heap.size, 2, none⟩ = some (.slice LA l.length lcap) := hF1.cell (by go_simp) (by simp only [hnew]; omega)
      have HT1 := Lib.hid (hF1.same w.heap.size (by simp))
      have HW1 := Lib.hid (HW.out.fr hF1 (fun t h => by omega))
      have HCR1 := Lib.hid (HCR.out.ext HCE.out hF1 (fun t h => by omega))
      have HCE1 := Lib.hid (HCE.out.fr hF1)
      have HO1 := Lib.hid (HO.out.fr hF1 (fun t h => by omega))
      have HI1 := Lib.hid (HI.out.ext HIE.out hF1 (fun t h => by omega))
      have HIE1 := Lib.hid (HIE.out.fr hF1)
      have HF1 := Lib.hid ((HFa.out.mono (S' := fun t => 1 ≤ t.1) (fun _ h => h.elim)).trans (hF1.mono (fun t h => by omega)))
      clear hF1)
    | (
      go_at_call 39
      refine (begun_no HW1.out HF1.out.dom HB.out).mono ?_
      rintro e w2 ⟨rfl, hF2⟩
      have HF2 := Lib.hid (HF1.out.trans (hF2.mono (fun _ h => h.elim)))
      clear hF2))
    go_ret
    exact ⟨rfl, T1, HF2.out⟩
  · simp only [not_or, Bool.not_eq_false] at hb
    obtain ⟨hb1, hb2⟩ := hb
    have HB1 := Lib.hid hb1
    have HB2 := Lib.hid hb2
    have hn0 : (runG (beginG places.toNat items) l).n = items.length := by rw [runG_same]; rfl
    clear hb1 hb2
    have HN0 := Lib.hid hn0
    clear hn0
    go_enter Try.func11, Try.ntmps11
    go_upto_region 4 with (first
      | (
      go_at_call 16
      refine (HS HFa.out.dom (by omega)).mono ?_
      rintro e w1 ⟨rfl, T1, hF1, hok1⟩
      have k0 : w1.cell? ⟨w.heap.size, 0, none⟩ = some (.int .i64 places) := hF1.cell (by go_simp) (by simp only [hnew]; omega)
      have k1 : w1.cell? ⟨w.heap.size, 1, none⟩ = some (.slice IA items.length icap) := hF1.cell (by go_simp) (by simp only [hnew]; omega)
      have k2 : w1.cell? ⟨w.heap.size, 2, none⟩ = some (.slice LA l.length lcap) := hF1.cell (by go_simp) (by simp only [hnew]; omega)
      have HT1 := Lib.hid (hF1.same w.heap.size (by simp))
      have HW1 := Lib.hid (HW.out.fr hF1 (fun t h => by omega))
      have HCR1 := Lib.hid (HCR.out.ext HCE.out hF1 (fun t h => by omega))
      have HCE1 := Lib.hid (HCE.out.fr hF1)
      have HO1 := Lib.hid (HO.out.fr hF1 (fun t h => by omega))
      have HI1 := Lib.hid (HI.out.ext HIE.out hF1 (fun t h => by omega))
      have HIE1 := Lib.hid (HIE.out.fr hF1)
      have HF1 := Lib.hid ((HFa.out.mono (S' := fun t => 1 ≤ t.1) (fun _ h => h.elim)).trans (hF1.mono (fun t h => by omega)))
      clear hF1)
      | (
      go_at_call 39
      refine (p_begun 100 HW1.out HF1.out.dom (by omega) HB1.out HB2.out).mono ?_
      rintro e w2 ⟨p, rfl, T2, hL2, hF2⟩
      have m1 : w2.cell? ⟨w.heap.size, 1, none⟩ = some (.slice IA items.length icap) := hF2.cell k1 (by simp only [HT1.out, hnew]; omega)
      have HT2 := Lib.hid ((hF2.same w.heap.size (World.block_lt_of_cell? w1 _ k0)).trans HT1.out)
      have HL2 := Lib.hid hL2
      have HCR2 := Lib.hid (HCR1.out.ext HCE1.out hF2 (fun t h => by omega))
      have HCE2 := Lib.hid (HCE1.out.fr hF2)
      have HO2 := Lib.hid (HO1.out.fr hF2 (fun t h => by omega))
      have HI2 := Lib.hid (HI1.out.ext HIE1.out hF2 (fun t h => by omega))
      have HF2 := Lib.hid (HF1.out.trans (hF2.mono (fun t h => by omega)))
      clear hF2 hL2 k0 k1 k2))
    obtain ⟨j0, hj, hy0, hy1, hy2⟩ := info_parts Try.info69
    generalize runG (beginG places.toNat items) l = g at HL2 HN0
    obtain ⟨bad, hbad⟩ : ∃ b : Bool, b = (decide (2000 < (choices.length : Int)) || decide (20 < (more.length : Int)) || !fewB items.length more) := ⟨_, rfl⟩
    have HFW := Lib.hid (few_ok HI2.out HO2.out HF2.out.dom)
    go_cut [52] (fun s wx => s = .bool bad ∧ Hid (Fr (fun _ => False) T2 T2 w2 wx))
    case first =>
      go_wp2_with (
        go_at_call 17
        refine HFW.out.mono ?_
        rintro e w3 ⟨rfl, hF3⟩
        have HF3 := Lib.hid hF3
        clear hF3)
      all_goals
        go_meet
        case rel => exact ⟨by rw [hbad]; (try simp [*]), by first | exact HF3 | exact Lib.hid (Fr.refl HF2.out.dom)⟩
    case rest =>
    obtain ⟨rfl, HFx⟩ := hcut
    cases bad
    case true =>
      clear hbad
      go_wp2_with fail
      go_ret
      exact ⟨rfl, T2, HF2.out.trans (HFx.out.mono (fun _ h => h.elim))⟩
    case false =>
    obtain ⟨hb1, hb2, hb3⟩ : choices.length ≤ 2000 ∧ more.length ≤ 20 ∧ fewB items.length more = true := by
      have := hbad.symm
      simp only [Bool.or_eq_false_iff, decide_eq_false_iff_not, Bool.not_eq_false', Int.not_lt] at this
      exact ⟨by omega, by omega, this.2⟩
    have HFEW := Lib.hid hb3
    clear hbad hb3
    have m2 : wc.cell? ⟨w.heap.size, 1, none⟩ = some (.slice IA items.length icap) := HFx.out.cellF m1
    have HTc := Lib.hid ((HFx.out.same w.heap.size (World.block_lt_of_cell? w2 _ m1)).trans HT2.out)
    have HLc := Lib.hid (HL2.out.frF HFx.out)
    have HOc := Lib.hid (HO2.out.fr HFx.out (fun _ h => h.elim))
    have HCRc := Lib.hid (HCR2.out.frF HFx.out)
    have HCEc := Lib.hid (HCE2.out.fr HFx.out)
    have HFc := Lib.hid (HF2.out.trans (HFx.out.mono (S' := fun t => 1 ≤ t.1) (fun _ h => h.elim)))
    clear m1
    go_upto_region 8 with (
      go_at_call 37
      refine (calm_ok [] HLc.out (by decide) (v := .slice none 0 0) ⟨rfl, by simp [ints], .inl ⟨rfl, rfl⟩⟩ (fun b off m cap h => by cases h) (by simp)).mono ?_
      rintro e w4 ⟨rfl, mc, T4, hfl, hm, hL4, hF4⟩
      have m4 : w4.cell? ⟨w.heap.size, 1, none⟩ = some (.slice IA items.length icap) := hF4.cell m2 (by simp only [HTc.out, hnew]; omega)
      have HL4 := Lib.hid hL4
      have HFL := Lib.hid hfl
      have HO4 := Lib.hid (HOc.out.fr hF4 (fun t h => by omega))
      have HCR4 := Lib.hid (HCRc.out.ext HCEc.out hF4 (fun t h => by omega))
      have HCE4 := Lib.hid (HCEc.out.fr hF4)
      have HT4 := Lib.hid ((hF4.same w.heap.size (World.block_lt_of_cell? wc _ m2)).trans HTc.out)
      have HF4 := Lib.hid (HFc.out.trans (hF4.mono (fun t h => by omega)))
      clear hL4 hfl hF4 m2 hm)
    have hgn : (calmN [] g mc).1.n = items.length := by rw [(calmN_n _ _ _).1]; exact HN0.out
    generalize (calmN [] g mc).1 = g0 at HL4 HFL hgn
    have HN := Lib.hid hgn
    have HST := Lib.hid (still_of HFL.out)
    have HG0 := Lib.hid HL4.out.good
    obtain ⟨MM, hMM⟩ := tag_max T4 w4.heap.size
    have hPV := p_versions HL4.out (600, 0, MM) (fun b hb e => by have := hMM b hb; rw [e] at this; simp at this) (.inr (show 132 < 600 by decide)) (show 600 ≠ 0 by decide)
    rw [hgn] at hPV
    have HPV := Lib.hid hPV
    have hn64 : items.length ≤ 64 := by rw [← hgn]; exact HL4.out.n64
    clear hMM hPV hgn
    go_wp2_with (first
    | (
      go_at_call 53
      refine HPV.out.mono ?_
      rintro e w5 ⟨v5, rfl, T5, hrow, hF5⟩
      obtain ⟨A5, c5, rfl, y3, y4⟩ := hrow.form
      unfold maxLen at y4
      have HV5 := Lib.hid hrow
      have m5 : w5.cell? ⟨w.heap.size, 1, none⟩ = some (.slice IA items.length icap) := hF5.cellF m4
      have HL5 := Lib.hid (HL4.out.frF hF5)
      have HF5 := Lib.hid hF5
      have HLT4 := Lib.hid (World.block_lt_of_cell? w4 _ m4)
      clear hrow hF5 m4)
    | (
      go_at_call 56
      refine (p_decided (300, 0, 0) HL5.out (by decide)).mono ?_
      rintro e w6 ⟨v6, rfl, T6, hrow, hF6⟩
      obtain ⟨A6, c6, rfl, y1, y2⟩ := hrow.form
      unfold maxLen at y2
      have m6 : w6.cell? ⟨w.heap.size, 1, none⟩ = some (.slice IA items.length icap) := hF6.cellF m5
      have HV6 := Lib.hid (HV5.out.fr hF6 (fun x => x))
      have HL6 := Lib.hid (HL5.out.frF hF6)
      have HF6 := Lib.hid (HF5.out.trans hF6)
      clear hrow hF6 m5)
    | (
      go_at_call 48
      refine (p_proposals 400 HL6.out (by omega) (by decide)).mono ?_
      rintro e w7 ⟨v7, vs, rfl, T7, hrow, hcl, hF7⟩
      obtain ⟨A7, c7, rfl, z1, z2⟩ := hrow.form
      unfold maxLen at z2
      have m7 : w7.cell? ⟨w.heap.size, 1, none⟩ = some (.slice IA items.length icap) := hF7.cell m6 (by have h1 := HF6.out.same w.heap.size HLT4.out; simp only [h1, HT4.out, hnew]; omega)
      have HL7 := Lib.hid (HL6.out.fr hF7 (fun t h => by omega))
      have HV7 := Lib.hid (HV6.out.fr hF7 (by simp))
      have hF47 := (HF6.out.mono (S' := fun t => t.1 = 400) (fun _ h => h.elim)).trans hF7
      have HF7 := Lib.hid hF47
      clear hrow hcl hF7 hF47 m6))
    have hHT7 := HF7.out.same w.heap.size HLT4.out
    have HT7 : Hid (T7 w.heap.size = tag w.heap.size) := Lib.hid (hHT7.trans HT4.out)
    have HO7 := Lib.hid (HO4.out.fr HF7.out (fun t h => by omega))
    have HCR7 := Lib.hid (HCR4.out.ext HCE4.out HF7.out (fun t h => by omega))
    have HCE7 := Lib.hid (HCE4.out.fr HF7.out)
    have HFW7 := Lib.hid (HF4.out.trans (HF7.out.mono (S' := fun t => 1 ≤ t.1) (fun t h => by omega)))
    have HA0 := Lib.hid (Ahead.init HG0.out HST.out)
    have hnp0 : g0.np ≤ 80 := HL7.out.np
    clear hHT7
    go_loopw [78, 13] (fun i b wr => ∃ m : Nat, m ≤ more.length ∧ i = .int .i64 m ∧ ∃ (bN : Nat) (gm : G) (Tr : Nat → Tag), b = .int .i64 bN ∧ bN ≤ m ∧ Hid (Ahead g0 gm) ∧ Hid (gm.np = g0.np + bN) ∧ Hid (LiveP Tr 100 wr p gm (80 + m)) ∧ Hid (Fr (fun t => 100 ≤ t.1 ∧ t.1 ≤ 132) T7 Tr w7 wr)) (fun i _ _ => more.length - (intOf i).toNat)
    case atStart => exact ⟨0, Nat.zero_le _, rfl, 0, g0, T7, rfl, Nat.le_refl _, HA0, Lib.hid rfl, HL7, Lib.hid (Fr.refl HL7.out.ok)⟩
    case round =>
      obtain ⟨m, hm, rfl, bN, gm, Tr, rfl, hbN, HA, HNP, HLr, HFr⟩ := hrel
      by_cases hmt : m < more.length
      · obtain ⟨⟨ok, on, cs⟩, hx⟩ : ∃ o, more[m]? = some o := ⟨_, List.getElem?_eq_getElem hmt⟩
        have hcs100 : cs.length ≤ 100 := few_claims HFEW.out (List.mem_of_getElem? hx)
        obtain ⟨ob, ooff, ocap', u, hov, o0, o1, o2, hxr⟩ := (HO7.out.fr HFr.out (fun t h => by omega)).get hx
        injection hov with hov _ hov2
        subst hov hov2
        simp only at o0 o1 o2 hxr
        obtain ⟨UA, ucap, rfl, u2⟩ := hxr.slice
        unfold maxLen at u2
        have HXR := Lib.hid hxr
        have i5 : (0 : Int) ≤ (m : Int) := by omega
        have i6 : (m : Int) < (more.length : Int) := by omega
        have hokr := HFr.out.dom
        clear hx hxr
        go_upto_region 18 with fail
        obtain ⟨w8, hw8⟩ : ∃ w8, w8 = wr.alloc (.cells #[.int .i64 ok, .int .i64 on, .slice UA cs.length ucap] 36) := ⟨_, rfl⟩
        obtain ⟨bo, hbo⟩ : ∃ bo, bo = wr.heap.size := ⟨_, rfl⟩
        have hF8 : Fr (fun _ => False) Tr Tr wr w8 := by rw [hw8]; exact Fr.alloc hokr _
        have n1 : w8.cell? ⟨bo, 1, none⟩ = some (.int .i64 on) := by rw [hw8, hbo]; go_simp
        have n2 : w8.cell? ⟨bo, 2, none⟩ = some (.slice UA cs.length ucap) := by rw [hw8, hbo]; go_simp
        rw [← hw8, ← hbo]
        have HL8 := Lib.hid (HLr.out.frF hF8)
        have HX8 := Lib.hid (HXR.out.frF hF8)
        have HV8 := Lib.hid ((HV7.out.fr HFr.out (by simp)).fr hF8 (fun x => x))
        have HF8 := Lib.hid (HFr.out.trans (hF8.mono (fun _ h => h.elim)))
        obtain ⟨M2, hM2⟩ := tag_max Tr w8.heap.size
        have HM2 : Hid (∀ b, b < w8.heap.size → Tr b ≠ ((0, 5, M2) : Tag)) := Lib.hid (fun b hb e => by have := hM2 b hb; rw [e] at this; simp at this)
        clear hw8 hbo hF8 hM2 o0 o1 o2 hokr
        go_wp2_with fail
        go_loopw [85, 16] (fun i a wq => ∃ j : Nat, j ≤ cs.length ∧ i = .int .i64 j ∧ ∃ (A2 : Option Addr) (cap2 : Nat) (L : List Clm), a = .slice A2 L.length cap2 ∧ Hid (L = filtL g0 items.length (cs.take j)) ∧ ∃ Tk : Nat → Tag, Hid (Row Tk (0, 5, M2) 69 2 wq (.slice A2 L.length cap2) L.length (claims L)) ∧ Hid (Fr (fun t => t = (0, 5, M2)) Tr Tk w8 wq)) (fun i _ _ => cs.length - (intOf i).toNat)
        case atStart => exact ⟨0, Nat.zero_le _, rfl, none, 0, [], rfl, Lib.hid (by simp [filtL]), Tr, Lib.hid (Row.nil _ _ _ _ _), Lib.hid (Fr.refl HF8.out.dom)⟩
        case round =>
          obtain ⟨j, hjj, rfl, A2, cap2, L, rfl, HLL, Tk, HR, HG⟩ := hrel
          have HF := Lib.hid (HG.out.fresh HM2.out)
          have hLlen : L.length ≤ 100 := by rw [HLL.out]; have h1 := filtL_len g0 items.length (cs.take j); rw [List.length_take] at h1; omega
          by_cases hjt : j < cs.length
          · obtain ⟨⟨ci, cv⟩, hcx⟩ : ∃ c, cs[j]? = some c := ⟨_, List.getElem?_eq_getElem hjt⟩
            have hrd : Rd 2 w8 (.slice UA cs.length ucap) cs.length (claims cs) := by
              rcases HX8.out with h | ⟨h, _⟩
              · exact h.1
              · rw [h] at hjt; simp at hjt
            obtain ⟨cb, coff, ccap', he, _, _, hac⟩ := Rd.elem (enc := Clm.cells) (hrd.frF HF.out) (fun _ => rfl) (by decide) hcx
            injection he with he _ he2
            subst he he2
            have f0 : wr.cell? ⟨cb, coff + j * 2, none⟩ = some (.int .i64 ci) := hac 0 _ rfl
            have f1 : wr.cell? ⟨cb, coff + j * 2 + 1, none⟩ = some (.int .i64 cv) := hac 1 _ rfl
            have i7 : (0 : Int) ≤ (j : Int) := by omega
            have i9 : (j : Int) < (cs.length : Int) := by omega
            have hokk := HF.out.dom
            clear hrd hac
            by_cases hsel : 0 ≤ ci ∧ ci < items.length
            · obtain ⟨jn, rfl⟩ : ∃ jn : Nat, ci = jn := ⟨ci.toNat, by omega⟩
              have hjn : jn < items.length := by omega
              have hfy := filtL_yes g0 items.length hcx hsel
              obtain ⟨ver, hver⟩ : ∃ x, x = (g0.items jn).ver := ⟨_, rfl⟩
              simp only [← hver] at hfy
              obtain ⟨b5, rfl, _, _, hcell⟩ := (HV8.out.fr HF.out (fun x => x)).cell rfl (j := jn) (by simp [ints, versG_len]; exact hjn)
              have e5 : wr.cell? ⟨b5, jn, none⟩ = some (.int .i64 ver) := by rw [hcell, ints, List.getElem?_map, versG_get g0 hjn, ← hver]; rfl
              have HFY := Lib.hid hfy
              have i10 : (0 : Int) ≤ (jn : Int) := by omega
              have i11 : (jn : Int) < (items.length : Int) := by omega
              have i12 : decide ((0 : Int) ≤ (jn : Int)) = true := decide_eq_true i10
              have i13 : decide ((jn : Int) < (items.length : Int)) = true := decide_eq_true i11
              have hFd : Fr (fun _ => False) Tk Tk wr (wr.alloc (.cells #[.int .i64 jn, .int .i64 cv] 69)).drew := (Fr.alloc hokk _).dr
              have n0 : (wr.alloc (.cells #[.int .i64 jn, .int .i64 cv] 69)).drew.cell? ⟨wr.heap.size, 0, none⟩ = some (.int .i64 jn) := by go_simp
              have HFd := Lib.hid hFd
              have HN0' := Lib.hid n0
              have HE5 := Lib.hid (hFd.cellF e5)
              clear hfy hver hcell hsel hcx hFd n0
              go_wp2_with fail
              refine start_ (n := 12) (S := fun w' => w'.cell? ⟨wr.heap.size, 0, none⟩ = some (.int .i64 jn) ∧ w'.cell? ⟨b5, jn, none⟩ = some (.int .i64 ver)) (ds := [8, 9, 10]) #[false, false, false, false, false, false, false, false, false, false, false, false] (by kernel_rfl) rfl rfl ⟨HN0'.out, HE5.out⟩ (fun hHeld => ?_)
              refine pure_ (i := 0) (N := some 99) (v := ?_) (a' := ?_) #[true, false, false, false, false, false, false, false, false, false, false, false] rfl rfl (by kernel_rfl) (fun _ _ _ h => h) (Or.inl ⟨by rfl, ?_⟩) ?_ ?_
              rotate_left
              · intro w'
                go_simp
                with_reducible rfl
              rotate_left
              · simp only [Act.put, List.setIfInBounds_toArray, List.set_cons_zero, List.set_cons_succ, i64_w, i32_w]
                rfl
              refine pure_ (i := 1) (N := some 100) (v := ?_) (a' := ?_) #[true, true, false, false, false, false, false, false, false, false, false, false] rfl rfl (by kernel_rfl) (fun _ _ _ h => h) (Or.inl ⟨by rfl, ?_⟩) ?_ ?_
              rotate_left
              · intro w'
                go_simp
                with_reducible rfl
              rotate_left
              · simp only [Act.put, List.setIfInBounds_toArray, List.set_cons_zero, List.set_cons_succ, i64_w, i32_w]
                rfl
              refine pure_ (i := 3) (N := some 102) (v := ?_) (a' := ?_) #[true, true, false, true, false, false, false, false, false, false, false, false] rfl rfl (by kernel_rfl) (fun _ _ _ h => h) (Or.inl ⟨by rfl, ?_⟩) ?_ ?_
              rotate_left
              · intro w'
                go_simp
                with_reducible rfl
              rotate_left
              · simp only [Act.put, List.setIfInBounds_toArray, List.set_cons_zero, List.set_cons_succ, i64_w, i32_w]
                rfl
              refine pure_ (i := 4) (N := some 103) (v := ?_) (a' := ?_) #[true, true, false, true, true, false, false, false, false, false, false, false] rfl rfl (by kernel_rfl) (fun _ _ _ h => h) (Or.inl ⟨by rfl, ?_⟩) ?_ ?_
              rotate_left
              · intro w'
                go_simp
                with_reducible rfl
              rotate_left
              · simp only [Act.put, List.setIfInBounds_toArray, List.set_cons_zero, List.set_cons_succ, i64_w, i32_w]
                rfl
              refine take_ (i := 2) (N := some 101) (v := ?_) (a' := ?_) #[true, true, true, true, true, false, false, false, false, false, false, false] rfl rfl (by kernel_rfl) (fun _ _ _ h => h) (Or.inl ⟨by rfl, ?_⟩) hHeld ?_ ?_
              rotate_left
              · rintro w' ⟨s0, s1⟩
                go_simp
                with_reducible rfl
              rotate_left
              · simp only [Act.put, List.setIfInBounds_toArray, List.set_cons_zero, List.set_cons_succ, i64_w, i32_w]
                rfl
              refine take_ (i := 5) (N := some 104) (v := ?_) (a' := ?_) #[true, true, true, true, true, true, false, false, false, false, false, false] rfl rfl (by kernel_rfl) (fun _ _ _ h => h) (Or.inl ⟨by rfl, ?_⟩) hHeld ?_ ?_
              rotate_left
              · rintro w' ⟨s0, s1⟩
                go_simp
                with_reducible rfl
              rotate_left
              · simp only [Act.put, List.setIfInBounds_toArray, List.set_cons_zero, List.set_cons_succ, i64_w, i32_w]
                rfl
              refine pure_ (i := 6) (N := some 105) (v := ?_) (a' := ?_) #[true, true, true, true, true, true, true, false, false, false, false, false] rfl rfl (by kernel_rfl) (fun _ _ _ h => h) (Or.inl ⟨by rfl, ?_⟩) ?_ ?_
              rotate_left
              · intro w'
                go_simp
                with_reducible rfl
              rotate_left
              · simp only [Act.put, List.setIfInBounds_toArray, List.set_cons_zero, List.set_cons_succ, i64_w, i32_w]
                rfl
              refine take_ (i := 7) (N := some 106) (v := ?_) (a' := ?_) #[true, true, true, true, true, true, true, true, false, false, false, false] rfl rfl (by kernel_rfl) (fun _ _ _ h => h) (Or.inl ⟨by rfl, ?_⟩) hHeld ?_ ?_
              rotate_left
              · rintro w' ⟨s0, s1⟩
                go_simp
                with_reducible rfl
              rotate_left
              · simp only [Act.put, List.setIfInBounds_toArray, List.set_cons_zero, List.set_cons_succ, i64_w, i32_w]
                rfl
              refine last_ (i := 8) (N := some 107) #[true, true, true, true, true, true, true, true, true, false, false, false] rfl rfl (by kernel_rfl) (by decide) (fun K hK => ?_)
              refine goes_ Try.func54 (by kernel_rfl) rfl #[.int .i64 (jn : Int), .int .i64 ver] (by rfl) rfl rfl (by simp only [List.map_toArray, List.map_cons, List.map_nil]; rfl) ?_
              refine (claim_ok (jn : Int) ver HFd.out.dom).mono ?_
              rintro e w9 ⟨rfl, hF9⟩
              have HR9 := Lib.hid ((HR.out.fr HFd.out (fun x => x)).fr hF9 (fun x => x))
              have HF9 := Lib.hid (HFd.out.trans hF9)
              have hok9 := hF9.dom
              clear hF9
              refine ⟨_, rfl, ?_⟩
              refine hK.out _ _ ?_
              clear hK K
              refine norm_ (a' := ?_) ?_ ?_
              rotate_left
              · show Act.put _ (some 107) _ = _
                simp only [Act.put, List.setIfInBounds_toArray, List.set_cons_zero, List.set_cons_succ, i64_w, i32_w]
                rfl
              refine last_ (i := 9) (N := some 108) #[true, true, true, true, true, true, true, true, true, true, false, false] rfl rfl (by kernel_rfl) (by decide) (fun K hK => ?_)
              refine value_ (w1 := ?_) (v := ?_) (by rfl) rfl ?_ ?_
              rotate_left 2
              · go_simp
                constructor
                · rfl
                · rfl
              refine hK.out _ _ ?_
              clear hK K
              refine norm_ (a' := ?_) ?_ ?_
              rotate_left
              · show Act.put _ (some 108) _ = _
                simp only [Act.put, List.setIfInBounds_toArray, List.set_cons_zero, List.set_cons_succ, i64_w, i32_w]
                rfl
              refine last_ (i := 10) (N := some 109) #[true, true, true, true, true, true, true, true, true, true, true, false] rfl rfl (by kernel_rfl) (by decide) (fun K hK => ?_)
              refine append_arm (by rfl) rfl (.tmp 99) (.tmp 108) 34 rfl (by rfl) (by rfl) (HR9.out.alloc _) (hok9.alloc _) Try.underlying34 hj hy0 hy1 hy2 rfl (by decide) [.int .i64 (jn : Int), .int .i64 ver] rfl (news_at (Go.Ng.heap_alloc_at _ _)) (by simp [Value.oneCell']) (by decide) (by unfold maxLen; omega) (by omega) ?_
              intro g3 cap3 w10 T10 hrow hfr
              have HROW := Lib.hid hrow
              have HF10 := Lib.hid hfr
              clear hrow hfr
              refine hK.out _ _ ?_
              clear hK K
              refine norm_ (a' := ?_) ?_ ?_
              rotate_left
              · show Act.put _ (some 109) _ = _
                simp only [Act.put, List.setIfInBounds_toArray, List.set_cons_zero, List.set_cons_succ, i64_w, i32_w]
                rfl
              refine pure_ (i := 11) (N := some 16) (v := ?_) (a' := ?_) #[true, true, true, true, true, true, true, true, true, true, true, true] rfl rfl (by kernel_rfl) (fun _ _ _ h => h) (Or.inl ⟨by rfl, ?_⟩) ?_ ?_
              rotate_left
              · intro w'
                go_simp
                with_reducible rfl
              rotate_left
              · simp only [Act.put, List.setIfInBounds_toArray, List.set_cons_zero, List.set_cons_succ, i64_w, i32_w]
                rfl
              refine done_ (by kernel_rfl) ?_
              clear hHeld
              go_wp2_with fail
              go_roundw
              case rel =>
                refine ⟨j + 1, by omega, by go_num, _, _, L ++ [⟨(jn : Int), ver⟩], by rw [List.length_append]; rfl, Lib.hid ?_, T10, Lib.hid ?_, Lib.hid ((HG.out.trans (HF9.out.mono (fun _ h => h.elim))).trans ((Fr.alloc HF9.out.dom _).trans HF10.out))⟩
                · rw [HFY.out, HLL.out]
                · rw [List.length_append, claims_snoc]
                  exact HROW.out
              case measure => simp [intOf]; omega
            · have hfn := filtL_no g0 items.length hcx hsel
              have HFN := Lib.hid hfn
              clear hfn hcx
              have hq : decide ((0 : Int) ≤ ci) = false ∨ (decide ((0 : Int) ≤ ci) = true ∧ decide (ci < (items.length : Int)) = false) := by
                by_cases e : 0 ≤ ci
                · exact .inr ⟨decide_eq_true e, decide_eq_false (by omega)⟩
                · exact .inl (decide_eq_false e)
              clear hsel
              rcases hq with q1 | ⟨q1, q2⟩
              all_goals
                go_wp2_with fail
                go_roundw
                case rel => exact ⟨j + 1, by omega, by go_num, A2, cap2, L, rfl, Lib.hid (by rw [HFN.out, HLL.out]), Tk, Lib.hid (HR.out.alloc _), Lib.hid (HG.out.al _)⟩
                case measure => simp [intOf]; omega
          · have hje : j = cs.length := by omega
            subst hje
            have hLL := HLL.out
            rw [List.take_length] at hLL
            have HLQ := Lib.hid (HL8.out.frF HF.out)
            have hvers : ∀ c ∈ L, c.version = (g0.items c.item).hist.length := by rw [hLL]; exact filtL_ver g0 HG0.out _ _
            have hah := ahead_doP HA.out on hvers
            have hPP := p_propose (n := on) HLQ.out (by omega) (Row.rdX HR.out rfl)
            have hnpd := doP_np gm on L
            obtain ⟨res, hres⟩ : ∃ r, r = doP gm on L := ⟨_, rfl⟩
            rw [← hres] at hah hPP hnpd
            obtain ⟨rg, rn, rc, er⟩ := res
            simp only at hah hnpd
            have HAH := Lib.hid hah
            have HPP := Lib.hid hPP
            have HNPD := Lib.hid hnpd
            have q1 := HF.out.cellF n1
            obtain ⟨hA2, hA3⟩ : L.length ≤ cap2 ∧ cap2 ≤ maxLen := by
              obtain ⟨A', c', h1, h2, h3⟩ := HR.out.form
              injection h1 with _ _ h1
              subst h1
              exact ⟨h2, h3⟩
            unfold maxLen at hA3
            clear hLL hvers hah hPP hnpd hres
            by_cases her : er = 0
            · subst her
              go_wp2_with (
                go_at_call 55
                refine HPP.out.mono ?_
                rintro e w11 ⟨cv, rfl, hD⟩
                obtain ⟨T11, hL11, hcv, hF11⟩ := hD.did
                obtain ⟨A11, c11, rfl, _, _⟩ := hcv.slice
                have HL11 := Lib.hid hL11
                have HF11 := Lib.hid ((HF8.out.trans (HF.out.mono (fun _ h => h.elim))).trans (hF11.mono (fun t h => by omega)))
                clear hL11 hF11 hD hcv)
              go_roundw
              case rel =>
                refine ⟨m + 1, by omega, by go_num, bN + 1, rg, T11, by go_num, by omega, HAH, Lib.hid ?_, HL11, HF11⟩
                rcases HNPD.out with ⟨_, h⟩ | ⟨h, _⟩
                · rw [h, HNP.out]; omega
                · exact absurd rfl h
              case measure => simp [intOf]; omega
            · have i14 : (er == 0) = false := by simpa using her
              have HER := Lib.hid her
              clear her
              go_wp2_with (
                go_at_call 55
                refine HPP.out.mono ?_
                rintro e w11 ⟨cv, rfl, hD⟩
                obtain ⟨T11, hL11, hcv, hF11⟩ := hD.did
                obtain ⟨A11, c11, rfl, _, _⟩ := hcv.slice
                have HL11 := Lib.hid hL11
                have HF11 := Lib.hid ((HF8.out.trans (HF.out.mono (fun _ h => h.elim))).trans (hF11.mono (fun t h => by omega)))
                clear hL11 hF11 hD hcv)
              go_roundw
              case rel =>
                refine ⟨m + 1, by omega, by go_num, bN, rg, T11, rfl, by omega, HAH, Lib.hid ?_, HL11, HF11⟩
                rcases HNPD.out with ⟨h, _⟩ | ⟨_, h⟩
                · exact absurd h HER.out
                · rw [h, HNP.out]
              case measure => simp [intOf]; omega
      · have hmm : m = more.length := by omega
        subst hmm
        have m8 : wr.cell? ⟨w.heap.size, 1, none⟩ = some (.slice IA items.length icap) := HFr.out.cell m7 (by simp only [HT7.out, hnew]; omega)
        have HT8 := Lib.hid ((HFr.out.same w.heap.size (World.block_lt_of_cell? w7 _ m7)).trans HT7.out)
        have HCR8 := Lib.hid (HCR7.out.ext HCE7.out HFr.out (fun t h => by omega))
        have HCE8 := Lib.hid (HCE7.out.fr HFr.out)
        have HFW8 := Lib.hid (HFW7.out.trans (HFr.out.mono (S' := fun t => 1 ≤ t.1) (fun t h => by omega)))
        clear m7
        go_upto_region 28 with fail
        go_cut [139] (fun s wx => s = .bool false ∧ ∃ (g4 : G) (T4 : Nat → Tag), Hid (Ahead g0 g4) ∧ Hid (g4.fl = []) ∧ Hid (LiveP T4 100 wx p g4 (80 + more.length)) ∧ Hid (Fr (fun t => 100 ≤ t.1 ∧ t.1 ≤ 133) Tr T4 wr wx))
        case first =>
          have hcal := calm_ok choices HLr.out (by omega) HCR8.out HCE8.out (by omega)
          have HCAL := Lib.hid hcal
          clear hcal
          by_cases hb0 : 0 < bN
          · have i1 : decide ((0 : Int) < (bN : Int)) = true := decide_eq_true (by omega)
            have HB := Lib.hid hb0
            clear hb0
            go_wp2_with (first
            | (
              go_at_call 37
              refine HCAL.out.mono ?_
              rintro e w9 ⟨rfl, mc2, T9, hfl, hmc, hL9, hF9⟩
              have hah := ahead_calm HA.out HG0.out HST.out choices mc2
              have hnp9 := (calmN_n choices gm mc2).2.1
              generalize (calmN choices gm mc2).1 = g4 at hfl hL9 hah hnp9
              have hmore := hah.some HG0.out HST.out (still_of hfl) (by rw [hnp9, HNP.out]; have := HB.out; omega)
              have HMORE := Lib.hid hmore
              have HA9 := Lib.hid hah
              have HFL9 := Lib.hid hfl
              have HL9 := Lib.hid hL9
              have HF9 := Lib.hid hF9
              clear hL9 hfl hF9 hmc hah hnp9 hmore)
            | (
              go_at_call 56
              refine (p_decided (302, 0, 0) HL9.out (by omega)).mono ?_
              rintro e w10 ⟨v10, rfl, T10, hrow, hF10⟩
              obtain ⟨A10, c10, rfl, _, _⟩ := hrow.form
              have i2 : decide ((g4.dec.length : Int) ≤ (g0.dec.length : Int)) = false := decide_eq_false (by have := HMORE.out; omega)
              have i3 : decide (g4.dec.length ≤ g0.dec.length) = false := decide_eq_false (by have := HMORE.out; omega)
              have HL10 := Lib.hid (HL9.out.frF hF10)
              have HF10 := Lib.hid (HF9.out.trans (hF10.mono (fun _ h => h.elim)))
              clear hrow hF10))
            all_goals
              go_meet
              case rel => exact ⟨rfl, g4, T10, HA9, HFL9, HL10, HF10⟩
          · have i1 : decide ((0 : Int) < (bN : Int)) = false := decide_eq_false (by omega)
            have i2 : decide (0 < bN) = false := decide_eq_false (by omega)
            clear hb0
            go_wp2_with (
              go_at_call 37
              refine HCAL.out.mono ?_
              rintro e w9 ⟨rfl, mc2, T9, hfl, hmc, hL9, hF9⟩
              have hah := ahead_calm HA.out HG0.out HST.out choices mc2
              generalize (calmN choices gm mc2).1 = g4 at hfl hL9 hah
              have HA9 := Lib.hid hah
              have HFL9 := Lib.hid hfl
              have HL9 := Lib.hid hL9
              have HF9 := Lib.hid hF9
              clear hL9 hfl hF9 hmc hah)
            all_goals
              go_meet
              case rel => exact ⟨rfl, g4, T9, HA9, HFL9, HL9, HF9⟩
        case rest =>
        obtain ⟨rfl, g4, T9, HA9, HFL9, HL9, HF9⟩ := hcut
        have m9 : wc.cell? ⟨w.heap.size, 1, none⟩ = some (.slice IA items.length icap) := HF9.out.cell m8 (by simp only [HT8.out, hnew]; omega)
        have HN4 : Hid (g4.n = items.length) := Lib.hid (HA9.out.n.trans HN.out)
        have HFW9 := Lib.hid (HFW8.out.trans (HF9.out.mono (S' := fun t => 1 ≤ t.1) (fun t h => by omega)))
        obtain ⟨M3, hM3⟩ := tag_max T9 wc.heap.size
        have hPV := p_versions HL9.out (600, 0, M3) (fun b hb e => by have := hM3 b hb; rw [e] at this; simp at this) (.inr (show 132 < 600 by decide)) (show 600 ≠ 0 by decide)
        rw [HN4.out] at hPV
        have HPV2 := Lib.hid hPV
        clear hPV hM3 m8
        go_upto_region 31 with (
          go_at_call 53
          refine HPV2.out.mono ?_
          rintro e w10 ⟨v10, rfl, T10, hrow, hF10⟩
          obtain ⟨A10, c10, rfl, y5, y6⟩ := hrow.form
          unfold maxLen at y6
          have HV10 := Lib.hid hrow
          have HL10 := Lib.hid (HL9.out.frF hF10)
          have HFW10 := Lib.hid (HFW9.out.trans (hF10.mono (fun _ h => h.elim)))
          clear hrow hF10)
        obtain ⟨w11, hw11⟩ : ∃ w11, w11 = w10.alloc (.cells #[.slice A10 items.length c10] 22) := ⟨_, rfl⟩
        obtain ⟨bt, hbt⟩ : ∃ bt, bt = w10.heap.size := ⟨_, rfl⟩
        have hF11 : Fr (fun _ => False) T10 T10 w10 w11 := by rw [hw11]; exact Fr.alloc HFW10.out.dom _
        have n0 : w11.cell? ⟨bt, 0, none⟩ = some (.slice A10 items.length c10) := by rw [hw11, hbt]; go_simp
        have HBT : Hid ((T10 bt).1 = 0) := Lib.hid (by rw [hbt]; exact HFW10.out.dom.new)
        rw [← hw11, ← hbt]
        have HV11 := Lib.hid (HV10.out.fr hF11 (fun x => x))
        have HL11 := Lib.hid (HL10.out.frF hF11)
        have HFW11 := Lib.hid (HFW10.out.trans (hF11.mono (fun _ h => h.elim)))
        have hnp4 : g4.np ≤ 100 := by have := HL11.out.np; omega
        clear hw11 hbt hF11
        go_wp2_with (
          go_at_call 48
          refine (p_proposals 401 HL11.out (by omega) (by omega)).mono ?_
          rintro e w12 ⟨v12, vs2, rfl, T12, hrow, hcl, hF12⟩
          obtain ⟨A12, c12, rfl, z3, z4⟩ := hrow.form
          unfold maxLen at z4
          have n2 : w12.cell? ⟨bt, 0, none⟩ = some (.slice A10 items.length c10) := hF12.cell n0 (by simp only [HBT.out]; omega)
          have HV12 := Lib.hid (HV11.out.fr hF12 (by simp))
          have HL12 := Lib.hid (HL11.out.fr hF12 (fun t h => by omega))
          have HFW12 := Lib.hid (HFW11.out.trans (hF12.mono (fun t h => by omega)))
          have HR12 := Lib.hid hrow
          have HC12 := Lib.hid hcl
          clear hrow hcl hF12)
        go_loopw [153] (fun i wq => ∃ n : Nat, n ≤ g4.np ∧ i = .int .i64 n ∧ Hid (Fr (fun _ => False) T12 T12 w12 wq)) (fun i _ => g4.np - (intOf i).toNat)
        case atStart => exact ⟨0, Nat.zero_le _, rfl, Lib.hid (Fr.refl HFW12.out.dom)⟩
        case round =>
          obtain ⟨n, hn, rfl, HFq⟩ := hrel
          by_cases hlt : n < g4.np
          · obtain ⟨u, hu, hru⟩ := HC12.out n hlt
            have hcr := hru.frF HFq.out
            obtain ⟨b4, rfl, _, _, hcell4⟩ := (HR12.out.fr HFq.out (fun x => x)).cell rfl (j := n) (List.getElem?_eq_some_iff.1 hu).1
            have e1 : wr.cell? ⟨b4, n, none⟩ = some u := by rw [hcell4, hu]
            have hcl64 := HL12.out.good.inv.len n
            have hcr2 : ∀ c ∈ (g4.props n).claims, 0 ≤ c.item ∧ c.item < items.length := fun c hc => by have := claims_rng HL12.out.good hc; rw [HN4.out] at this; exact ⟨this.2.2.1, this.2.2.2⟩
            have href : g0.np ≤ n → (g4.props n).st = 3 → ∃ c ∈ (g4.props n).claims, badV (versG g4 items.length) c := fun h1 h2 => by
              obtain ⟨c, hc, hv⟩ := HA9.out.refused (p := n) (by omega) h2
              obtain ⟨h3, h4⟩ := hcr2 c hc
              refine ⟨c, hc, (g4.items c.item).ver, ?_, hv⟩
              rw [versG_get g4 (by omega)]
              rw [Int.toNat_of_nonneg h3]
            obtain ⟨cs, hcs⟩ : ∃ cs, cs = (g4.props n).claims := ⟨_, rfl⟩
            obtain ⟨st, hst⟩ : ∃ st, st = (g4.props n).st := ⟨_, rfl⟩
            rw [← hcs] at hcr hcl64 hcr2 href
            rw [← hst] at href
            obtain ⟨UA, ucap, rfl, u1, u2⟩ := hcr.slice
            unfold maxLen at u2
            have HCR := Lib.hid hcr
            have HCC := Lib.hid hcr2
            have HREF := Lib.hid href
            have HSS := Lib.hid hst
            have i7 : (0 : Int) ≤ (n : Int) := by omega
            have i8 : (n : Int) < (g4.np : Int) := by omega
            have hq : (decide ((g0.np : Int) ≤ (n : Int)) = false ∧ decide (g0.np ≤ n) = false) ∨ ((decide ((g0.np : Int) ≤ (n : Int)) = true ∧ decide (g0.np ≤ n) = true) ∧ (st == 3) = false) ∨ ((decide ((g0.np : Int) ≤ (n : Int)) = true ∧ decide (g0.np ≤ n) = true) ∧ (st == 3) = true) := by
              by_cases e : g0.np ≤ n
              · have d1 : decide ((g0.np : Int) ≤ (n : Int)) = true := decide_eq_true (by omega)
                have d2 : decide (g0.np ≤ n) = true := decide_eq_true e
                cases e2 : (st == 3)
                · exact .inr (.inl ⟨⟨d1, d2⟩, rfl⟩)
                · exact .inr (.inr ⟨⟨d1, d2⟩, rfl⟩)
              · exact .inl ⟨decide_eq_false (by omega), decide_eq_false e⟩
            clear hu hru hcr hcell4 hcs hst href hcr2
            rcases hq with ⟨q1, q2⟩ | ⟨⟨q1, q2⟩, q3⟩ | ⟨⟨q1, q2⟩, q3⟩
            · go_wp2_with (
                go_at_call 38
                refine (p_status (n := n) (HL12.out.frF HFq.out) hlt).mono ?_
                rw [← HSS.out]
                rintro e w13 ⟨rfl, hF13⟩
                have HF13 := Lib.hid (HFq.out.trans hF13)
                clear hF13)
              go_roundw
              case rel => exact ⟨n + 1, by omega, by go_num, HF13⟩
              case measure => simp [intOf]; omega
            · go_wp2_with (
                go_at_call 38
                refine (p_status (n := n) (HL12.out.frF HFq.out) hlt).mono ?_
                rw [← HSS.out]
                rintro e w13 ⟨rfl, hF13⟩
                have HF13 := Lib.hid (HFq.out.trans hF13)
                clear hF13)
              go_roundw
              case rel => exact ⟨n + 1, by omega, by go_num, HF13⟩
              case measure => simp [intOf]; omega
            · have HBAD := Lib.hid (HREF.out (of_decide_eq_true q2) (by simpa using q3))
              go_wp2_with (first
              | (
                go_at_call 38
                refine (p_status (n := n) (HL12.out.frF HFq.out) hlt).mono ?_
                rw [← HSS.out]
                rintro e w13 ⟨rfl, hF13⟩
                have HF13 := Lib.hid (HFq.out.trans hF13)
                have HCR13 := Lib.hid (HCR.out.frF hF13)
                clear hF13)
              | (
                go_at_call 35
                refine (stale_ok bt (HF13.out.cellF n2) (World.block_lt_of_cell? _ _ (HF13.out.cellF n2)) (HV12.out.fr HF13.out (fun x => x)) HCR13.out (by omega) HCC.out HBAD.out HF13.out.dom).mono ?_
                rintro e w14 ⟨rfl, hF14⟩
                have HF14 := Lib.hid (HF13.out.trans hF14)
                clear hF14))
              go_roundw
              case rel => exact ⟨n + 1, by omega, by go_num, HF14⟩
              case measure => simp [intOf]; omega
          · have hnn : n = g4.np := by omega
            subst hnn
            go_wp2_with fail
            go_ret
            exact ⟨rfl, T12, HFW12.out.trans (HFq.out.mono (fun _ h => h.elim))⟩
end Go.Proofs.Ytclkokkppgchfaa

/- NegoDoubles: the walk. -/
namespace Go.Proofs.Ytclkokkppgchfaa
open Go.RowKit Go.Ng Go.Proofs.YtclkokkppgchfaaW.PrintLast
set_option linter.unusedSimpArgs false
set_option linter.unusedVariables false
theorem SameG.doG {a b : G} (S : SameG a b) (o : OpM) (hk : o.kind ≤ 1) : SameG (doG a o).1 (doG b o).1 ∧ (doG a o).2 = (doG b o).2 := by
  unfold Go.Proofs.Ytclkokkppgchfaa.doG
  by_cases h0 : o.kind = 0
  · rw [if_pos h0, if_pos h0]; exact S.doP o.n o.claims
  · rw [if_neg h0, if_neg h0]
    by_cases h1 : o.kind = 1
    · rw [if_pos h1, if_pos h1]; exact S.doD o.n
    · rw [if_neg h1, if_neg h1, if_neg (by omega), if_neg (by omega), if_neg (by omega), if_neg (by omega)]; exact ⟨S, rfl⟩
theorem still_doG {g : G} (I : NGood g) (h : g.fl = []) (o : OpM) (hk : o.kind ≤ 1) : W2.all (doG g o).1 ≤ 256 := by
  have h0 := still_wt I h
  unfold Go.Proofs.Ytclkokkppgchfaa.doG
  by_cases e0 : o.kind = 0
  · rw [if_pos e0]; exact still_doP I h o.n o.claims
  · rw [if_neg e0]
    by_cases e1 : o.kind = 1
    · rw [if_pos e1, still_doD I h]; omega
    · rw [if_neg e1, if_neg (by omega), if_neg (by omega)]; show W2.all g ≤ _; omega
theorem calm_still {g : G} (h : g.fl = []) (mc : Nat) : (calmN [] g mc).1 = g := by
  have := calmN_stop (choices := []) (g := g) (k := 0) h mc
  rw [Nat.zero_add] at this
  rw [this]; rfl
set_option pp.deepTerms true
set_option pp.maxSteps 1000000
set_option maxRecDepth 100000 in
set_option maxHeartbeats 12800000 in
theorem negoDoubles_ok {tag : Nat → Tag} {w : World} {v vc : Value} {places : Int} {items choices : List Int} {l : List OpM} (h : WorldRd tag w v places items l) (hc : Rd 1 w vc choices.length (ints choices)) (hce : Ext tag w vc) (hok : TagOk tag w) :
    Calls Try.prog 14 #[v, vc] w fun e w' => e = .returned (.bool true) ∧ ∃ tag', Fr (fun t => 1 ≤ t.1) tag tag' w w' := by
  have HS := fun {tag : Nat → Tag} {w : World} => @sane_ok tag w 1
  obtain ⟨vi, vl, rfl, hi, hie, hl⟩ := h.form
  obtain ⟨IA, icap, rfl, q1, q2⟩ := hi.slice
  obtain ⟨LA, lcap, rfl, q3, q4⟩ := hl.slice
  obtain ⟨CA, ccap, rfl, q5, q6⟩ := hc.slice
  unfold maxLen at q2 q4 q6
  have hFa : Fr (fun _ => False) tag tag w (w.alloc (.cells #[.int .i64 places, .slice IA items.length icap, .slice LA l.length lcap] 75)) := Fr.alloc hok _
  have HFa := Lib.hid hFa
  have HI := Lib.hid (hi.frF hFa)
  have HIE := Lib.hid (hie.fr hFa)
  have HO := Lib.hid (hl.fr hFa (fun t h => h.elim))
  have HC := Lib.hid (hc.frF hFa)
  have HCE := Lib.hid (hce.fr hFa)
  have hnew : (tag w.heap.size).1 = 0 := hok.new
  clear h hi hie hl hFa hc hce
  obtain ⟨bad, hbad⟩ : ∃ b : Bool, b = (!fewB items.length l || decide (200 < (choices.length : Int))) := ⟨_, rfl⟩
  go_enter Try.func14, Try.ntmps14
  go_upto_region 3 with (
      go_at_call 16
      refine (HS HFa.out.dom (by omega)).mono ?_
      rintro e w1 ⟨rfl, T1, hF1, hok1⟩
      have k0 : w1.cell? ⟨w.heap.size, 0, none⟩ = some (.int .i64 places) := hF1.cell (by go_simp) (by simp only [hnew]; omega)
      have k1 : w1.cell? ⟨w.heap.size, 1, none⟩ = some (.slice IA items.length icap) := hF1.cell (by go_simp) (by simp only [hnew]; omega)
      have k2 : w1.cell? ⟨w.heap.size, 2, none⟩ = some (.slice LA l.length lcap) := hF1.cell (by go_simp) (by simp only [hnew]; omega)
      have HT1 := Lib.hid (hF1.same w.heap.size (by simp))
      have HI1 := Lib.hid (HI.out.ext HIE.out hF1 (fun t h => by omega))
      have HIE1 := Lib.hid (HIE.out.fr hF1)
      have HO1 := Lib.hid (HO.out.fr hF1 (fun t h => by omega))
      have HC1 := Lib.hid (HC.out.ext HCE.out hF1 (fun t h => by omega))
      have HCE1 := Lib.hid (HCE.out.fr hF1)
      have HF1 := Lib.hid ((HFa.out.mono (S' := fun t => 1 ≤ t.1) (fun _ h => h.elim)).trans (hF1.mono (fun t h => by omega)))
      clear hF1)
  have HFW := Lib.hid (few_ok HI1.out HO1.out HF1.out.dom)
  go_cut [39] (fun s wx => s = .bool bad ∧ Hid (Fr (fun _ => False) T1 T1 w1 wx))
  case first =>
    go_wp2_with (
      go_at_call 17
      refine HFW.out.mono ?_
      rintro e w3 ⟨rfl, hF3⟩
      have HF3 := Lib.hid hF3
      clear hF3)
    all_goals
      go_meet
      case rel => exact ⟨by rw [hbad]; (try simp [*]), HF3⟩
  case rest =>
  obtain ⟨rfl, HFx⟩ := hcut
  cases bad
  case true =>
    clear hbad
    go_wp2_with fail
    go_ret
    exact ⟨rfl, T1, HF1.out.trans (HFx.out.mono (fun _ h => h.elim))⟩
  case false =>
  obtain ⟨hb1, hb3⟩ : choices.length ≤ 200 ∧ fewB items.length l = true := by
    have := hbad.symm
    simp only [Bool.or_eq_false_iff, decide_eq_false_iff_not, Bool.not_eq_false', Int.not_lt] at this
    exact ⟨by omega, this.1⟩
  have hl80 : l.length ≤ 80 := by simp only [fewB, Bool.and_eq_true, decide_eq_true_eq] at hb3; omega
  clear hbad hb3
  have m0 := HFx.out.cellF k0
  have m1 := HFx.out.cellF k1
  have m2 := HFx.out.cellF k2
  have HTc := Lib.hid ((HFx.out.same w.heap.size (World.block_lt_of_cell? w1 _ k0)).trans HT1.out)
  have HIc := Lib.hid (HI1.out.frF HFx.out)
  have HIEc := Lib.hid (HIE1.out.fr HFx.out)
  have HOc := Lib.hid (HO1.out.fr HFx.out (fun _ h => h.elim))
  have HCc := Lib.hid (HC1.out.frF HFx.out)
  have HCEc := Lib.hid (HCE1.out.fr HFx.out)
  have HFc := Lib.hid (HF1.out.trans (HFx.out.mono (S' := fun t => 1 ≤ t.1) (fun _ h => h.elim)))
  clear k0 k1 k2
  by_cases hv : places < 1 ∨ 32 < places ∨ rightB items places = false
  · have HV := Lib.hid hv
    clear hv
    go_wp2_with (
      go_at_call 30
      refine (rnew_bad places items HIc.out HV.out).mono ?_
      rintro e w' ⟨rfl, hw⟩
      replace hw := hw.symm
      subst hw)
    go_ret
    exact ⟨rfl, T1, HFc.out⟩
  · obtain ⟨hp1, hp2, hright⟩ : 1 ≤ places ∧ places ≤ 32 ∧ rightB items places = true := by
      simp only [not_or, Bool.not_eq_false, Int.not_lt] at hv
      exact hv
    clear hv
    obtain ⟨pl, rfl⟩ : ∃ pl : Nat, places = pl := ⟨places.toNat, by omega⟩
    have HRG := Lib.hid hright
    have hpl1 : 1 ≤ pl := by omega
    have hpl2 : pl ≤ 32 := by omega
    clear hright hp1 hp2
    go_upto_region 9 with (first
    | (
      go_at_call 30
      refine (rnew_ok 140 pl items HIc.out HIEc.out HFc.out.dom (by omega) hpl1 hpl2 HRG.out).mono ?_
      rintro e w3 ⟨q, rfl, T3, Ps, yv, ys, _, _, _, _, hF3⟩
      have n0 := hF3.cell m0 (by simp only [HTc.out, hnew]; omega)
      have n1 := hF3.cell m1 (by simp only [HTc.out, hnew]; omega)
      have n2 := hF3.cell m2 (by simp only [HTc.out, hnew]; omega)
      have HT3 := Lib.hid ((hF3.same w.heap.size (World.block_lt_of_cell? wc _ m0)).trans HTc.out)
      have HI3 := Lib.hid (HIc.out.ext HIEc.out hF3 (fun t h => by omega))
      have HIE3 := Lib.hid (HIEc.out.fr hF3)
      have HO3 := Lib.hid (HOc.out.fr hF3 (fun t h => by omega))
      have HC3 := Lib.hid (HCc.out.ext HCEc.out hF3 (fun t h => by omega))
      have HCE3 := Lib.hid (HCEc.out.fr hF3)
      have HF3 := Lib.hid (HFc.out.trans (hF3.mono (fun t h => by omega)))
      clear hF3 m0 m1 m2)
    | (
      go_at_call 29
      refine (p_new 100 pl items HI3.out HIE3.out HF3.out.dom (by omega) hpl1 hpl2 HRG.out).mono ?_
      rintro e w4 ⟨p, rfl, T4, hL4, hF4⟩
      have o0 := hF4.cell n0 (by simp only [HT3.out, hnew]; omega)
      have o1 := hF4.cell n1 (by simp only [HT3.out, hnew]; omega)
      have o2 := hF4.cell n2 (by simp only [HT3.out, hnew]; omega)
      have HT4 := Lib.hid ((hF4.same w.heap.size (World.block_lt_of_cell? w3 _ n0)).trans HT3.out)
      have HL4 := Lib.hid hL4
      have HI4 := Lib.hid (HI3.out.ext HIE3.out hF4 (fun t h => by omega))
      have HIE4 := Lib.hid (HIE3.out.fr hF4)
      have HO4 := Lib.hid (HO3.out.fr hF4 (fun t h => by omega))
      have HC4 := Lib.hid (HC3.out.ext HCE3.out hF4 (fun t h => by omega))
      have HCE4 := Lib.hid (HCE3.out.fr hF4)
      have HF4 := Lib.hid (HF3.out.trans (hF4.mono (fun t h => by omega)))
      clear hF4 hL4 n0 n1 n2))
    go_upto_region 12 with (
      go_at_call 29
      refine (p_new 200 pl items HI4.out HIE4.out HF4.out.dom (by omega) hpl1 hpl2 HRG.out).mono ?_
      rintro e w6 ⟨pq, rfl, T6, hL6, hF6⟩
      have r1 := hF6.cell o1 (by simp only [HT4.out, hnew]; omega)
      have r2 := hF6.cell o2 (by simp only [HT4.out, hnew]; omega)
      have HT6 := Lib.hid ((hF6.same w.heap.size (World.block_lt_of_cell? w4 _ o0)).trans HT4.out)
      have HL6 := Lib.hid (HL4.out.fr hF6 (fun t h => by omega))
      have HLQ6 := Lib.hid hL6
      have HO6 := Lib.hid (HO4.out.fr hF6 (fun t h => by omega))
      have HC6 := Lib.hid (HC4.out.ext HCE4.out hF6 (fun t h => by omega))
      have HCE6 := Lib.hid (HCE4.out.fr hF6)
      have HF6 := Lib.hid (HF4.out.trans (hF6.mono (fun t h => by omega)))
      clear hF6 hL6 o0 o1 o2)
    have HR1 := Lib.hid r1
    go_wp2_with fail
    clear r1 r2
    go_loopw [83] (fun i wr => ∃ m : Nat, m ≤ l.length ∧ i = .int .i64 m ∧ ∃ (a b : G) (Tr : Nat → Tag), Hid (SameG a b) ∧ Hid (b.fl = []) ∧ Hid (b.n = items.length) ∧ Hid (LiveP Tr 100 wr p a m) ∧ Hid (LiveP Tr 200 wr pq b m) ∧ Hid (Fr (fun t => (100 ≤ t.1 ∧ t.1 ≤ 132) ∨ (200 ≤ t.1 ∧ t.1 ≤ 232)) T6 Tr w6 wr)) (fun i _ => l.length - (intOf i).toNat)
    case atStart => exact ⟨0, Nat.zero_le _, rfl, beginG pl items, beginG pl items, T6, Lib.hid (SameG.rfl' _), Lib.hid rfl, Lib.hid rfl, HL6, HLQ6, Lib.hid (Fr.refl HF6.out.dom)⟩
    case round =>
      obtain ⟨m, hm, rfl, a, b, Tr, HSM, HBF, HBN, HLa, HLb, HFr⟩ := hrel
      by_cases hmt : m < l.length
      · obtain ⟨⟨ok, on, cs⟩, hx⟩ : ∃ o, l[m]? = some o := ⟨_, List.getElem?_eq_getElem hmt⟩
        obtain ⟨ob, ooff, ocap', u, hov, o0, o1, o2, hxr⟩ := (HO6.out.fr HFr.out (fun t h => by omega)).get hx
        injection hov with hov _ hov2
        subst hov hov2
        simp only at o0 o1 o2 hxr
        obtain ⟨UA, ucap, rfl, u2⟩ := hxr.slice
        unfold maxLen at u2
        have HXO := Lib.hid hxr
        have i5 : (0 : Int) ≤ (m : Int) := by omega
        have i6 : (m : Int) < (l.length : Int) := by omega
        have hokr := HFr.out.dom
        clear hx hxr
        go_upto_region 15 with fail
        obtain ⟨w8, hw8⟩ : ∃ w8, w8 = wr.alloc (.cells #[.int .i64 ok, .int .i64 on, .slice UA cs.length ucap] 36) := ⟨_, rfl⟩
        obtain ⟨bo, hbo⟩ : ∃ bo, bo = wr.heap.size := ⟨_, rfl⟩
        have hF8 : Fr (fun _ => False) Tr Tr wr w8 := by rw [hw8]; exact Fr.alloc hokr _
        have a0 : w8.cell? ⟨bo, 0, none⟩ = some (.int .i64 ok) := by rw [hw8, hbo]; go_simp
        have a1 : w8.cell? ⟨bo, 1, none⟩ = some (.int .i64 on) := by rw [hw8, hbo]; go_simp
        have a2 : w8.cell? ⟨bo, 2, none⟩ = some (.slice UA cs.length ucap) := by rw [hw8, hbo]; go_simp
        have hbot : (Tr bo).1 = 0 := by rw [hbo]; exact hokr.new
        rw [← hw8, ← hbo]
        have HBO := Lib.hid hbot
        have HLa8 := Lib.hid (HLa.out.frF hF8)
        have HLb8 := Lib.hid (HLb.out.frF hF8)
        have HX8 := Lib.hid (HXO.out.frF hF8)
        have HF8 := Lib.hid (HFr.out.trans (hF8.mono (fun _ h => h.elim)))
        clear hw8 hbo hF8 o0 o1 o2 hokr hbot
        by_cases hkd : 1 < ok
        · have i7 : decide ((1 : Int) < ok) = true := decide_eq_true hkd
          clear hkd
          go_wp2_with fail
          go_roundw
          case rel => exact ⟨m + 1, by omega, by go_num, a, b, Tr, HSM, HBF, HBN, Lib.hid (HLa8.out.more (Nat.le_succ m)), Lib.hid (HLb8.out.more (Nat.le_succ m)), HF8⟩
          case measure => simp [intOf]; omega
        · have i7 : decide ((1 : Int) < ok) = false := decide_eq_false hkd
          have hk1 : ok ≤ 1 := by omega
          have hsd := HSM.out.doG ⟨ok, on, cs⟩ hk1
          have hw2 := still_doG HLb.out.good HBF.out ⟨ok, on, cs⟩ hk1
          have hDA := p_do (⟨ok, on, cs⟩ : OpM) HLa8.out (by omega) HX8.out
          have hnb : (doG b ⟨ok, on, cs⟩).1.n = b.n := by have := runG_same b [⟨ok, on, cs⟩]; exact this
          obtain ⟨ra, hra⟩ : ∃ r, r = doG a ⟨ok, on, cs⟩ := ⟨_, rfl⟩
          obtain ⟨rb, hrb⟩ : ∃ r, r = doG b ⟨ok, on, cs⟩ := ⟨_, rfl⟩
          rw [← hra, ← hrb] at hsd
          rw [← hrb] at hw2 hnb
          rw [← hra] at hDA
          obtain ⟨ga, rn, rc, er⟩ := ra
          obtain ⟨gb, rest⟩ := rb
          simp only at hsd hw2 hnb
          obtain ⟨hsg, hrr⟩ := hsd
          subst hrr
          have HRB := Lib.hid hrb
          have HDA := Lib.hid hDA
          have HSG := Lib.hid hsg
          have HW2 := Lib.hid hw2
          have HNB := Lib.hid (hnb.trans HBN.out)
          clear hkd hra hrb hDA hsg hw2 hnb
          go_upto_region 20 with (first
          | (
            go_at_call_has 31 p
            refine HDA.out.mono ?_
            rintro e w10 ⟨cv, rfl, hD⟩
            obtain ⟨T10, hL10, hcv, hF10⟩ := hD.did
            obtain ⟨A10, c10, rfl, _, _⟩ := hcv.slice
            have b0 : w10.cell? ⟨bo, 0, none⟩ = some (.int .i64 ok) := hF10.cell a0 (by simp only [HBO.out]; omega)
            have b1 : w10.cell? ⟨bo, 1, none⟩ = some (.int .i64 on) := hF10.cell a1 (by simp only [HBO.out]; omega)
            have b2 : w10.cell? ⟨bo, 2, none⟩ = some (.slice UA cs.length ucap) := hF10.cell a2 (by simp only [HBO.out]; omega)
            have HLa10 := Lib.hid hL10
            have hDB := p_do (⟨ok, on, cs⟩ : OpM) (HLb8.out.fr hF10 (fun t h => by omega)) (by omega) (HX8.out.fr hF10 (fun t h => by omega))
            rw [← HRB.out] at hDB
            have HDB := Lib.hid hDB
            have HF10 := Lib.hid (HF8.out.trans (hF10.mono (fun t h => by omega)))
            clear hD hL10 hcv hF10 hDB)
          | (
            go_at_call_has 31 pq
            refine HDB.out.mono ?_
            rintro e w11 ⟨cv, rfl, hD⟩
            obtain ⟨T11, hL11, hcv, hF11⟩ := hD.did
            obtain ⟨A11, c11, rfl, _, _⟩ := hcv.slice
            have HLa11 := Lib.hid (HLa10.out.fr hF11 (fun t h => by omega))
            have HLb11 := Lib.hid hL11
            have HF11 := Lib.hid (HF10.out.trans (hF11.mono (fun t h => by omega)))
            clear hD hL11 hcv hF11))
          go_wp2_with fail
          go_loopw [19] (fun s wk => ∃ k : Nat, k ≤ 256 ∧ s = .int .i64 k ∧ ∃ (a' b' : G) (Tk : Nat → Tag), Hid (SameG a' b') ∧ Hid (k + W2.all b' ≤ 256) ∧ Hid (b'.n = items.length) ∧ Hid (LiveP Tk 100 wk p a' (m + 1)) ∧ Hid (LiveP Tk 200 wk pq b' (m + 1)) ∧ Hid (Fr (fun t => (100 ≤ t.1 ∧ t.1 ≤ 132) ∨ (200 ≤ t.1 ∧ t.1 ≤ 232)) T6 Tk w6 wk)) (fun s _ => 300 - (intOf s).toNat)
          case atStart => exact ⟨0, Nat.zero_le _, rfl, ga, gb, T11, HSG, Lib.hid (by have := HW2.out; omega), HNB, HLa11, HLb11, HF11⟩
          case round =>
            obtain ⟨k, hk, rfl, a', b', Tk, HS', HK', HN', HLa', HLb', HFk⟩ := hrel
            have hfl := HLb'.out.fl (by omega)
            by_cases hz : b'.fl = []
            · have HZ := Lib.hid hz
              clear hz
              go_wp2_with (
                go_at_call 42
                refine (p_flight (300, 0, 0) HLb'.out (by omega)).mono ?_
                rw [HZ.out]
                rintro e w12 ⟨v12, rfl, T12, hrow, hF12⟩
                obtain ⟨A12, c12, rfl, _, _⟩ := hrow.form
                have HF12 := Lib.hid hF12
                clear hrow hF12)
              go_roundw
              case rel => exact ⟨m + 1, by omega, by go_num, a', b', T12, HS', HZ, HN', Lib.hid (HLa'.out.frF HF12.out), Lib.hid (HLb'.out.frF HF12.out), Lib.hid (HFk.out.trans (HF12.out.mono (fun _ h => h.elim)))⟩
              case measure => simp [intOf]; omega
            · have hlen : 0 < b'.fl.length := List.length_pos_iff.2 hz
              have hk2 : k < 256 := by have h1 := fl_le2 b'; have h2 := HK'.out; omega
              have j1 : decide ((0 : Int) < (b'.fl.length : Int)) = true := decide_eq_true (by omega)
              have j2 : decide (0 < b'.fl.length) = true := decide_eq_true hlen
              have j3 : decide ((2000 : Int) < (k : Int)) = false := decide_eq_false (by omega)
              have HLEN := Lib.hid hlen
              clear hz
              go_upto_region 25 with (
                go_at_call 42
                refine (p_flight (300, 0, 0) HLb'.out (by omega)).mono ?_
                rintro e w12 ⟨v12, rfl, T12, hrow, hF12⟩
                obtain ⟨A12, c12, rfl, _, _⟩ := hrow.form
                have HF12 := Lib.hid hF12
                clear hrow hF12)
              go_upto_region 28 with (
                go_at_call 42
                refine (p_flight (302, 0, 0) (HLb'.out.frF HF12.out) (by omega)).mono ?_
                rintro e w13 ⟨v13, rfl, T13, hrow, hF13⟩
                obtain ⟨A13, c13, rfl, y1, y2⟩ := hrow.form
                unfold maxLen at y2
                have HR13 := Lib.hid hrow
                have HF13 := Lib.hid (HF12.out.trans hF13)
                clear hrow hF13)
              obtain ⟨ix, hix⟩ : ∃ ix : Nat, (ix : Int) = (m : Int) + (k : Int) := ⟨m + k, by omega⟩
              rw [← hix]
              have HC13 := Lib.hid ((HC6.out.ext HCE6.out HFk.out (fun t h => by omega)).frF HF13.out)
              have hok13 := HF13.out.dom
              clear hix
              go_upto_if 129 with fail
              go_cut [21] (fun s wx => ∃ pk : Nat, s = .int .i64 pk ∧ pk < b'.fl.length ∧ Hid (Fr (fun _ => False) T13 T13 w13 wx))
              case first =>
                by_cases hat : ix < choices.length
                · obtain ⟨x, hx⟩ : ∃ x, choices[ix]? = some x := ⟨_, List.getElem?_eq_getElem hat⟩
                  obtain ⟨cb, coff, ccap2, hv, _, _, e0⟩ := Rd.int HC13.out hx
                  injection hv with hv _ hv2
                  subst hv hv2
                  have hbd := tmod_bd x b'.fl.length HLEN.out
                  have hbd2 := pick_bd x b'.fl.length HLEN.out
                  have H1 : Hid (IntKind.i64.wrap (x.tmod (b'.fl.length : Int)) = x.tmod (b'.fl.length : Int)) := Lib.hid (IntWalk.i64_in _ (by omega))
                  have H2 : Hid (IntKind.i64.wrap (x.tmod (b'.fl.length : Int) + (b'.fl.length : Int)) = x.tmod (b'.fl.length : Int) + (b'.fl.length : Int)) := Lib.hid (IntWalk.i64_in _ (by omega))
                  obtain ⟨pk, hpk⟩ : ∃ pk : Nat, (pk : Int) = (x.tmod (b'.fl.length : Int) + (b'.fl.length : Int)).tmod (b'.fl.length : Int) := ⟨((x.tmod (b'.fl.length : Int) + (b'.fl.length : Int)).tmod (b'.fl.length : Int)).toNat, by omega⟩
                  have H3 : Hid (IntKind.i64.wrap ((x.tmod (b'.fl.length : Int) + (b'.fl.length : Int)).tmod (b'.fl.length : Int)) = (pk : Int)) := Lib.hid (by rw [hpk]; exact IntWalk.i64_in _ (by omega))
                  have HPK := Lib.hid (show pk < b'.fl.length by omega)
                  have HPE := Lib.hid hpk
                  have h0 : ((b'.fl.length : Int) == 0) = false := by rw [beq_eq_false_iff_ne]; omega
                  have i8 : (0 : Int) ≤ (ix : Int) := by omega
                  have i9 : (ix : Int) < (choices.length : Int) := by omega
                  have i10 : decide ((ix : Int) < (choices.length : Int)) = true := decide_eq_true i9
                  clear hx hbd hbd2 hpk
                  have h1 := H1.out
                  have h2 := H2.out
                  have h3 := H3.out
                  go_wp2_with fail
                  all_goals
                    go_meet
                    case rel => exact ⟨pk, by first | rfl | (simp [h1, h2, h3]; exact HPE.out.symm), HPK.out, Lib.hid (Fr.refl hok13)⟩
                · have i9 : decide ((ix : Int) < (choices.length : Int)) = false := decide_eq_false (by omega)
                  have i10 : decide (ix < choices.length) = false := decide_eq_false hat
                  have i11 : choices.length ≤ ix := by omega
                  clear i9
                  go_wp2_with fail
                  all_goals
                    go_meet
                    case rel => exact ⟨0, rfl, HLEN.out, Lib.hid (Fr.refl hok13)⟩
              case rest =>
              obtain ⟨pk, rfl, hpk, HFy⟩ := hcut
              obtain ⟨⟨x0, x1, x2, x3, x4, x5⟩, hx⟩ : ∃ x, b'.fl[pk]? = some x := ⟨_, List.getElem?_eq_getElem hpk⟩
              have hxa : (⟨x0, x1, x2, x3, x4, x5⟩ : Post) ∈ a'.fl := HS'.out.fl.mem_iff.2 (List.mem_of_getElem? hx)
              obtain ⟨fb, rfl, _, _, hce⟩ := Row.elem (enc := Post.cells) (HR13.out.fr HFy.out (fun x => x)) (fun _ => rfl) (by decide) hx
              have c0 : wc.cell? ⟨fb, pk * 6, none⟩ = some (.int .i64 x0) := hce 0 _ rfl
              have c1 : wc.cell? ⟨fb, pk * 6 + 1, none⟩ = some (.int .i64 x1) := hce 1 _ rfl
              have c2 : wc.cell? ⟨fb, pk * 6 + 2, none⟩ = some (.int .i64 x2) := hce 2 _ rfl
              have c3 : wc.cell? ⟨fb, pk * 6 + 3, none⟩ = some (.int .i64 x3) := hce 3 _ rfl
              have c4 : wc.cell? ⟨fb, pk * 6 + 4, none⟩ = some (.int .i64 x4) := hce 4 _ rfl
              have c5 : wc.cell? ⟨fb, pk * 6 + 5, none⟩ = some (.int .i64 x5) := hce 5 _ rfl
              have hF14 := HF13.out.trans HFy.out
              have HTW := Lib.hid (twice_ok (HLa'.out.frF hF14) (by omega) ⟨x0, x1, x2, x3, x4, x5⟩ hxa)
              have HLb14 := Lib.hid (HLb'.out.frF hF14)
              have HF14 := Lib.hid (HFk.out.trans (hF14.mono (S' := fun t => (100 ≤ t.1 ∧ t.1 ≤ 132) ∨ (200 ≤ t.1 ∧ t.1 ≤ 232)) (fun _ h => h.elim)))
              have HX := Lib.hid hx
              have hwt := wt_deliver W2_ok HLb'.out.good hx
              have hnn' : (b'.deliverG pk ⟨x0, x1, x2, x3, x4, x5⟩).n = b'.n := (takeG_same (g := b') _).2.2.1
              have HWT := Lib.hid hwt
              have HNN := Lib.hid (hnn'.trans HN'.out)
              have i8 : (0 : Int) ≤ (pk : Int) := by omega
              have i9 : (pk : Int) < (b'.fl.length : Int) := by omega
              clear hx hxa hce hF14 hwt hnn'
              go_wp2_with (first
              | (
                go_at_call 60
                refine HTW.out.mono ?_
                rintro e w15 ⟨rfl, T15, a'', hS'', hL15, hF15⟩
                have HS'' := Lib.hid (hS'' b' pk HS'.out HX.out)
                have HLa15 := Lib.hid hL15
                have HLb15 := Lib.hid (HLb14.out.fr hF15 (fun t h => by omega))
                have HF15 := Lib.hid (HF14.out.trans (hF15.mono (fun t h => by omega)))
                clear hS'' hL15 hF15)
              | (
                go_at_call 61
                refine (p_deliver (n := (pk : Int)) HLb15.out (by omega)).mono ?_
                rw [doL_at HX.out]
                rintro e w16 ⟨cv, rfl, hD⟩
                obtain ⟨T16, hL16, hcv, hF16⟩ := hD.did
                obtain ⟨A16, c16, rfl, _, _⟩ := hcv.slice
                have HLa16 := Lib.hid (HLa15.out.fr hF16 (fun t h => by omega))
                have HLb16 := Lib.hid hL16
                have HF16 := Lib.hid (HF15.out.trans (hF16.mono (fun t h => by omega)))
                clear hD hL16 hcv hF16))
              go_roundw
              case rel => exact ⟨k + 1, by omega, by go_num, a'', b'.deliverG pk ⟨x0, x1, x2, x3, x4, x5⟩, T16, HS'', Lib.hid (by have h1 := HWT.out; have h2 := HK'.out; simp only [show W2.dl = 1 from rfl] at h1; omega), HNN, HLa16, HLb16, HF16⟩
              case measure => simp [intOf]; omega
      · have hmm : m = l.length := by omega
        subst hmm
        have r1 : wr.cell? ⟨w.heap.size, 1, none⟩ = some (.slice IA items.length icap) := HFr.out.cell HR1.out (by simp only [HT6.out, hnew]; omega)
        have haf : a.fl = [] := List.Perm.eq_nil (by have := HSM.out.fl; rw [HBF.out] at this; exact this)
        have HAF := Lib.hid haf
        have HTr := Lib.hid ((HFr.out.same w.heap.size (World.block_lt_of_cell? w6 _ HR1.out)).trans HT6.out)
        have HFW := Lib.hid (HF6.out.trans (HFr.out.mono (S' := fun t => 1 ≤ t.1) (fun t h => by omega)))
        clear haf
        go_wp2_with (first
        | (
          go_at_call_has 37 p
          refine (calm_ok [] HLa.out (by omega) (v := .slice none 0 0) ⟨rfl, by simp [ints], .inl ⟨rfl, rfl⟩⟩ (fun b off m cap h => by cases h) (by simp)).mono ?_
          rintro e w8 ⟨rfl, mc, T8, _, _, hL8, hF8⟩
          rw [calm_still HAF.out] at hL8
          have t1 : w8.cell? ⟨w.heap.size, 1, none⟩ = some (.slice IA items.length icap) := hF8.cell r1 (by simp only [HTr.out, hnew]; omega)
          have HT8 := Lib.hid ((hF8.same w.heap.size (World.block_lt_of_cell? _ _ r1)).trans HTr.out)
          have HLa8 := Lib.hid hL8
          have HLb8 := Lib.hid (HLb.out.fr hF8 (fun t h => by omega))
          have HF8 := Lib.hid (HFW.out.trans (hF8.mono (fun t h => by omega)))
          clear hL8 hF8 r1)
        | (
          go_at_call_has 37 pq
          refine (calm_ok [] HLb8.out (by omega) (v := .slice none 0 0) ⟨rfl, by simp [ints], .inl ⟨rfl, rfl⟩⟩ (fun b off m cap h => by cases h) (by simp)).mono ?_
          rintro e w9 ⟨rfl, mc2, T9, _, _, hL9, hF9⟩
          rw [calm_still HBF.out] at hL9
          have t2 : w9.cell? ⟨w.heap.size, 1, none⟩ = some (.slice IA items.length icap) := hF9.cell t1 (by simp only [HT8.out, hnew]; omega)
          have hAL := alike_ok (HLa8.out.fr hF9 (fun t h => by omega)) hL9 (by omega) HSM.out
          rw [HSM.out.n, HBN.out] at hAL
          have HAL := Lib.hid hAL
          have HF9 := Lib.hid (HF8.out.trans (hF9.mono (fun t h => by omega)))
          clear hL9 hF9 hAL t1)
        | (
          go_at_call 62
          refine HAL.out.mono ?_
          rintro e w10 ⟨rfl, T10, hF10⟩
          have HF10 := Lib.hid (HF9.out.trans (hF10.mono (fun t h => by omega)))
          clear hF10))
        go_ret
        exact ⟨rfl, T10, HF10.out⟩
end Go.Proofs.Ytclkokkppgchfaa

/- NegoApart's closure: a claim of an item that is used. -/
namespace Go.Proofs.Ytclkokkppgchfaa
open Go.RowKit Go.Ng Go.Proofs.YtclkokkppgchfaaW.PrintLast
set_option linter.unusedSimpArgs false
set_option linter.unusedVariables false
def usedI (us : List Int) (c : Clm) : Bool := decide (c.item ∈ us)
set_option maxRecDepth 100000 in
set_option maxHeartbeats 1600000 in
theorem used1_ok {tag : Nat → Tag} {w : World} {us : List Int} {bm : Nat} (bt : Nat) (a b : Int) (hb : w.cell? ⟨bt, 0, none⟩ = some (.map (some bm))) (hm : MapIs w bm (us.map fun n => (.int .i64 n, .bool true))) (hok : TagOk tag w) :
    Calls Try.prog 36 #[.agg #[.int .i64 a, .int .i64 b], .pointer (some ⟨bt, 0, none⟩)] w fun e w' => e = .returned (.bool (usedI us ⟨a, b⟩)) ∧ Fr (fun _ => False) tag tag w w' := by
  have hFa : Fr (fun _ => False) tag tag w (w.alloc (.cells #[.int .i64 a, .int .i64 b] 69)) := Fr.alloc hok _
  have hlt := World.block_lt_of_cell? w _ hb
  have hlk := look_thr (hm.fr hFa (fun x => x)) a
  have HU : Hid (usedI us ⟨a, b⟩ = decide (a ∈ us)) := Lib.hid rfl
  obtain ⟨q, hq⟩ : ∃ q, q = decide (a ∈ us) := ⟨_, rfl⟩
  rw [← hq] at hlk HU
  have HFa := Lib.hid hFa
  clear hm hFa hq
  go_enter Try.func36, Try.ntmps36
  go_wp2_with fail
  go_ret
  exact ⟨by rw [HU.out]; rfl, HFa.out⟩
set_option maxRecDepth 100000 in
set_option maxHeartbeats 1600000 in
theorem usedJ_ok {tag : Nat → Tag} {w : World} {us : List Int} {bm : Nat} {v : Value} {l : List Clm} (bt : Nat) (hb : w.cell? ⟨bt, 0, none⟩ = some (.map (some bm))) (hm : MapIs w bm (us.map fun n => (.int .i64 n, .bool true))) (hmb : bm < w.heap.size) (hl : RdX tag w v l) (hll : l.length ≤ 1000000) (hok : TagOk tag w) :
    Calls Try.prog 98 #[v, .func (.func 36) #[] #[.pointer (some ⟨bt, 0, none⟩)]] w fun e w' => ∃ i : Int, e = .returned (.int .i64 i) ∧ decide (0 ≤ i) = l.any (usedI us) ∧ Fr (fun _ => False) tag tag w w' := by
  obtain ⟨LA, lcap, rfl, h2⟩ := hl.slice
  unfold maxLen at h2
  have HL := Lib.hid hl
  have HM := Lib.hid hm
  clear hl hm
  go_enter Try.func98, Try.ntmps98
  go_wp2_with fail
  go_loopw [8] (fun i wr => ∃ m : Nat, m ≤ l.length ∧ i = .int .i64 m ∧ Hid (∀ i < m, ∀ c, l[i]? = some c → usedI us c = false) ∧ Hid (Fr (fun _ => False) tag tag w wr)) (fun i _ => l.length - (intOf i).toNat)
  case atStart => exact ⟨0, Nat.zero_le _, rfl, Lib.hid (fun i h => by omega), Lib.hid (Fr.refl hok)⟩
  case round =>
    obtain ⟨m, hm, rfl, HNO, HFr⟩ := hrel
    by_cases hlt : m < l.length
    · obtain ⟨⟨ci, cv⟩, hx⟩ : ∃ c, l[m]? = some c := ⟨_, List.getElem?_eq_getElem hlt⟩
      have hrd : Rd 2 w (.slice LA l.length lcap) l.length (claims l) := by
        rcases HL.out with h | ⟨h, _⟩
        · exact h.1
        · rw [h] at hlt; simp at hlt
      obtain ⟨ab, aoff, acap', he, _, _, hac⟩ := Rd.elem (enc := Clm.cells) hrd (fun _ => rfl) (by decide) hx
      injection he with he _ he2
      subst he he2
      have a0 : wr.cell? ⟨ab, aoff + m * 2, none⟩ = some (.int .i64 ci) := HFr.out.cellF (hac 0 _ rfl)
      have a1 : wr.cell? ⟨ab, aoff + m * 2 + 1, none⟩ = some (.int .i64 cv) := HFr.out.cellF (hac 1 _ rfl)
      have i1 : (0 : Int) ≤ (m : Int) := by omega
      have i2 : (m : Int) < (l.length : Int) := by omega
      have HS := Lib.hid (used1_ok bt ci cv (HFr.out.cellF hb) (HM.out.fr HFr.out (fun x => x)) HFr.out.dom)
      have HX := Lib.hid hx
      clear hac hx hrd
      cases hq : usedI us ⟨ci, cv⟩
      · rw [hq] at HS
        have HQ := Lib.hid hq
        clear hq
        go_wp2_with (
          go_at_call 36
          refine HS.out.mono ?_
          rintro e w1 ⟨rfl, hF1⟩
          have HF1 := Lib.hid (HFr.out.trans hF1)
          clear hF1)
        go_roundw
        case rel => exact ⟨m + 1, by omega, by go_num, Lib.hid (fun i hi c hc => by
          rcases Nat.lt_succ_iff_lt_or_eq.1 hi with h | h
          · exact HNO.out i h c hc
          · subst h
            rw [HX.out] at hc
            injection hc with hc
            subst hc
            exact HQ.out), HF1⟩
        case measure => simp [intOf]; omega
      · rw [hq] at HS
        have HQ := Lib.hid hq
        clear hq
        go_wp2_with (
          go_at_call 36
          refine HS.out.mono ?_
          rintro e w1 ⟨rfl, hF1⟩
          have HF1 := Lib.hid (HFr.out.trans hF1)
          clear hF1)
        go_ret
        refine ⟨m, rfl, ?_, HF1.out⟩
        rw [decide_eq_true (by omega)]
        exact (List.any_eq_true.2 ⟨_, List.mem_of_getElem? HX.out, HQ.out⟩).symm
    · have hmm : m = l.length := by omega
      subst hmm
      go_wp2_with fail
      go_ret
      refine ⟨-1, rfl, ?_, HFr.out⟩
      rw [decide_eq_false (by omega)]
      symm
      rw [List.any_eq_false]
      intro c hc
      obtain ⟨i, hi⟩ := List.getElem?_of_mem hc
      rw [HNO.out i (List.getElem?_eq_some_iff.1 hi).1 _ hi]
      decide
set_option maxRecDepth 100000 in
set_option maxHeartbeats 1600000 in
theorem usedAny_ok {tag : Nat → Tag} {w : World} {us : List Int} {bm : Nat} {v : Value} {l : List Clm} (bt : Nat) (hb : w.cell? ⟨bt, 0, none⟩ = some (.map (some bm))) (hm : MapIs w bm (us.map fun n => (.int .i64 n, .bool true))) (hmb : bm < w.heap.size) (hl : RdX tag w v l) (hll : l.length ≤ 1000000) (hok : TagOk tag w) :
    Calls Try.prog 35 #[v, .func (.func 36) #[] #[.pointer (some ⟨bt, 0, none⟩)]] w fun e w' => e = .returned (.bool (l.any (usedI us))) ∧ Fr (fun _ => False) tag tag w w' := by
  have HS := Lib.hid (usedJ_ok bt hb hm hmb hl hll hok)
  obtain ⟨q, hq⟩ : ∃ q, q = l.any (usedI us) := ⟨_, rfl⟩
  rw [← hq] at HS ⊢
  clear hb hm hl hq
  go_enter Try.func35, Try.ntmps35
  go_wp2_with (
    go_at_call 98
    refine HS.out.mono ?_
    rintro e w1 ⟨i, rfl, hi, hF1⟩
    have HI := Lib.hid hi
    have HF1 := Lib.hid hF1
    clear hi hF1)
  go_ret
  exact ⟨by rw [← HI.out]; rfl, HF1.out⟩
end Go.Proofs.Ytclkokkppgchfaa
