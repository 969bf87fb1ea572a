/- A part of the proof: texts of this session, joined. -/
import Derived.Test.YtclkokkppgchfaaNegoEnoughOwn11
import Derived.Test.YtclkokkppgchfaaNegoEnoughOwn12
import Derived.Test.YtclkokkppgchfaaNegoEnoughOwn13
import Derived.Test.YtclkokkppgchfaaPart10
/- NegoEnough: the walk. -/
namespace Go.Proofs.Ytclkokkppgchfaa
open Go.RowKit Go.Ng Go.Proofs.YtclkokkppgchfaaW.PrintLast
set_option linter.unusedSimpArgs false
set_option linter.unusedVariables false
section
variable {tag tag' : Nat → Tag} {w w' : World} {Ps : List PlaceM} {g : G}
theorem OwnP.dst (h : OwnP tag w Ps g) (I : NGood g) {m : Post} (hm : m ∈ g.fl) : ∃ q : Nat, m.dst = q ∧ q < g.places := by
  obtain ⟨N, _, A⟩ := h.abs
  obtain ⟨k1, k2, i, _, hc⟩ := I.inv.mcl _ _ _ (has_mem hm)
  obtain ⟨p0, pn, j0, jn⟩ := I.inv.rng _ _ _ hc
  have R := I.route m hm
  have h1 := A.homer m.prop p0 pn
  have h2 := A.siter m.item j0 jn
  by_cases e : m.kind = 2 ∨ m.kind = 3
  · exact ⟨(g.home m.prop).toNat, by rw [(R.dst.1 e).2]; omega, by omega⟩
  · simp only [not_or] at e
    exact ⟨(g.site m.item).toNat, by rw [(R.dst.2 e.1 e.2).2]; omega, by omega⟩
theorem OwnP.homeq (h : OwnP tag w Ps g) {n : Nat} (hn : n < g.np) : ∃ q : Nat, g.home n = q ∧ q < g.places := by
  obtain ⟨N, _, A⟩ := h.abs
  have h1 := A.homer n (by omega) (by omega)
  exact ⟨(g.home n).toNat, by omega, by omega⟩
theorem OwnP.double (h : OwnP tag w Ps g) (m : Post) : OwnP tag w Ps { g with fl := g.fl ++ [m] } := by
  obtain ⟨N, h1, A⟩ := h.abs
  exact ⟨h.rep, { N with flight := N.flight ++ [m] }, h1, A.double⟩
theorem OwnP.ptr (h : OwnP tag w Ps g) {q : Nat} (hq : q < g.places) : ∃ P, Ps[q]? = some P := ⟨_, List.getElem?_eq_getElem (by rw [h.len]; exact hq)⟩
theorem LiveP.smallG {B p k : Nat} (L : LiveP tag B w p g k) (hk : k ≤ 150) : Small g := ⟨by have := L.np; omega, by have := L.wt; omega⟩
end
theorem doG_one (g : G) (n : Int) (cs : List Clm) : doG g ⟨1, n, cs⟩ = doD g n := rfl
theorem doG_three (g : G) (n : Int) (cs : List Clm) : doG g ⟨3, n, cs⟩ = doB g n := rfl
theorem rd_nil {w w' : World} {A : Option Addr} {n cap : Nat} (h : Rd 3 w (.slice A n cap) 0 (cames [])) : Rd 3 w' (.slice A n cap) 0 (cames []) := by
  refine ⟨h.len, h.one, ?_⟩
  rcases h.form with h | ⟨b, off, cap', h1, h2, h3, _⟩
  · exact .inl h
  · exact .inr ⟨b, off, cap', h1, h2, h3, fun j u hu => by simp [cames] at hu⟩
theorem came_le (g : G) (m : Post) : (g.takeG m).2.2.length ≤ 1 := by
  have hC := takeG_cames (g := g) m
  generalize (g.takeG m).1 = g1 at hC
  generalize (g.takeG m).2.2 = cs at hC
  cases hC <;> simp
theorem doG_err {g : G} {o : OpM} (h : (doG g o).2.2.2 ≠ 0) : (doG g o).1 = g := by
  unfold doG at h ⊢
  by_cases h0 : o.kind = 0
  · rw [if_pos h0] at h ⊢
    rcases doP_np g o.n o.claims with ⟨e, _⟩ | ⟨_, e⟩
    · exact absurd e h
    · exact e
  · rw [if_neg h0] at h ⊢
    by_cases h1 : o.kind = 1
    · rw [if_pos h1] at h ⊢
      unfold doD at h ⊢
      split
      · rfl
      · split
        · rfl
        · rename_i a b; rw [if_neg a, if_neg b] at h; exact absurd rfl h
    · rw [if_neg h1] at h ⊢
      by_cases h2 : o.kind = 2
      · rw [if_pos h2] at h ⊢
        unfold doL at h ⊢
        split
        · rfl
        · rename_i a
          rw [if_neg a] at h
          cases hx : g.fl[o.n.toNat]? with
          | none => rfl
          | some m => rw [hx] at h; exact absurd rfl h
      · rw [if_neg h2] at h ⊢
        by_cases h3 : o.kind = 3
        · rw [if_pos h3] at h ⊢
          unfold doB at h ⊢
          split
          · rfl
          · rename_i a
            rw [if_neg a] at h
            cases hx : g.fl[o.n.toNat]? with
            | none => rfl
            | some m => rw [hx] at h; exact absurd rfl h
        · rw [if_neg h3]
theorem doG_idle {g : G} {o : OpM} (h : o.kind < 0 ∨ 3 < o.kind) : (doG g o).1 = g := by
  unfold doG
  rw [if_neg (by omega), if_neg (by omega), if_neg (by omega), if_neg (by omega)]
theorem doB_at {g : G} {n : Int} (h : (doB g n).2.2.2 = 0) : ∃ (i : Nat) (m : Post), n = i ∧ g.fl[i]? = some m ∧ doB g n = ({ g with fl := g.fl ++ [m] }, (0 : Int), ([] : List Came), (0 : Int)) := by
  unfold doB at h ⊢
  split at h
  · simp at h
  · rename_i h1
    split at h
    · rename_i m hm
      refine ⟨n.toNat, m, by omega, hm, ?_⟩
      rw [if_neg h1]
    · simp at h
theorem doL_at' {g : G} {n : Int} (h : (doL g n).2.2.2 = 0) : ∃ (i : Nat) (m : Post), n = i ∧ g.fl[i]? = some m ∧ doL g n = (g.deliverG i m, (0 : Int), (g.takeG m).2.2, (0 : Int)) := by
  unfold doL at h ⊢
  split at h
  · simp at h
  · rename_i h1
    split at h
    · rename_i m hm
      refine ⟨n.toNat, m, by omega, hm, ?_⟩
      rw [if_neg h1]
    · simp at h
theorem doD_at {g : G} {n : Int} (h : (doD g n).2.2.2 = 0) : ∃ i : Nat, n = i ∧ i < g.np ∧ (g.props i).st = 1 ∧ doD g n = (g.dropG i, (0 : Int), ([] : List Came), (0 : Int)) := by
  unfold doD at h ⊢
  split at h
  · simp at h
  · rename_i h1
    split at h
    · simp at h
    · rename_i h2
      refine ⟨n.toNat, by omega, by omega, ?_, ?_⟩
      · rw [Int.toNat_of_nonneg (by omega)]; omega
      · rw [if_neg h1, if_neg h2, Int.toNat_of_nonneg (by omega)]
set_option pp.deepTerms true
set_option pp.maxSteps 1000000
set_option maxRecDepth 100000 in
set_option maxHeartbeats 12800000 in
theorem negoEnough_ok {tag : Nat → Tag} {w : World} {v : Value} {places : Int} {items : List Int} {l : List OpM} (h : WorldRd tag w v places items l) (hok : TagOk tag w) :
    Calls Try.prog 7 #[v] w fun e w' => e = .returned (.bool true) ∧ ∃ tag', Fr (fun t => 1 ≤ t.1) tag tag' w w' := by
  have HS := fun {tag : Nat → Tag} {w : World} => @sane_ok tag w 1
  obtain ⟨vi, vl, rfl, hi, hie, hl⟩ := h.form
  obtain ⟨IA, icap, rfl, q1, q2⟩ := hi.slice
  obtain ⟨LA, lcap, rfl, q3, q4⟩ := hl.slice
  unfold maxLen at q2 q4
  have hFa : Fr (fun _ => False) tag tag w (w.alloc (.cells #[.int .i64 places, .slice IA items.length icap, .slice LA l.length lcap] 75)) := Fr.alloc hok _
  have HFa := Lib.hid hFa
  have HI := Lib.hid (hi.frF hFa)
  have HIE := Lib.hid (hie.fr hFa)
  have HO := Lib.hid (hl.fr hFa (fun t h => h.elim))
  have hnew : (tag w.heap.size).1 = 0 := hok.new
  clear h hi hie hl hFa
  cases hf : fewB items.length l
  · have HFEW := Lib.hid hf
    clear hf
    go_enter Try.func7, Try.ntmps7
    go_wp2_with (first
    | (
      go_at_call 16
      refine (HS HFa.out.dom (by omega)).mono ?_
      rintro e w1 ⟨rfl, T1, hF1, hok1⟩
      have k0 : w1.cell? ⟨w.heap.size, 0, none⟩ = some (.int .i64 places) := hF1.cell (by go_simp) (by simp only [hnew]; omega)
      have k1 : w1.cell? ⟨w.heap.size, 1, none⟩ = some (.slice IA items.length icap) := hF1.cell (by go_simp) (by simp only [hnew]; omega)
      have k2 : w1.cell? ⟨w.heap.size, 2, none⟩ = some (.slice LA l.length lcap) := hF1.cell (by go_simp) (by simp only [hnew]; omega)
      have HT1 := Lib.hid (hF1.same w.heap.size (by simp))
      have HI1 := Lib.hid (HI.out.ext HIE.out hF1 (fun t h => by omega))
      have HIE1 := Lib.hid (HIE.out.fr hF1)
      have HO1 := Lib.hid (HO.out.fr hF1 (fun t h => by omega))
      have HF1 := Lib.hid ((HFa.out.mono (S' := fun t => 1 ≤ t.1) (fun _ h => h.elim)).trans (hF1.mono (fun t h => by omega)))
      clear hF1)
    | (
      go_at_call 17
      refine (few_ok HI1.out HO1.out HF1.out.dom).mono ?_
      rw [HFEW.out]
      rintro e wc ⟨rfl, hFx⟩
      have m0 := hFx.cellF k0
      have m1 := hFx.cellF k1
      have m2 := hFx.cellF k2
      have HTc := Lib.hid ((hFx.same w.heap.size (World.block_lt_of_cell? w1 _ k0)).trans HT1.out)
      have HIc := Lib.hid (HI1.out.frF hFx)
      have HIEc := Lib.hid (HIE1.out.fr hFx)
      have HOc := Lib.hid (HO1.out.fr hFx (fun _ h => h.elim))
      have HFc := Lib.hid (HF1.out.trans (hFx.mono (S' := fun t => 1 ≤ t.1) (fun _ h => h.elim)))
      clear hFx k0 k1 k2))
    go_ret
    exact ⟨rfl, T1, HFc.out⟩
  · have HFEW := Lib.hid hf
    have hl80 : l.length ≤ 80 := by simp only [fewB, Bool.and_eq_true, decide_eq_true_eq] at hf; omega
    clear hf
    by_cases hv : places < 1 ∨ 32 < places ∨ rightB items places = false
    · have HV := Lib.hid hv
      clear hv
      go_enter Try.func7, Try.ntmps7
      go_wp2_with (first
    | (
      go_at_call 16
      refine (HS HFa.out.dom (by omega)).mono ?_
      rintro e w1 ⟨rfl, T1, hF1, hok1⟩
      have k0 : w1.cell? ⟨w.heap.size, 0, none⟩ = some (.int .i64 places) := hF1.cell (by go_simp) (by simp only [hnew]; omega)
      have k1 : w1.cell? ⟨w.heap.size, 1, none⟩ = some (.slice IA items.length icap) := hF1.cell (by go_simp) (by simp only [hnew]; omega)
      have k2 : w1.cell? ⟨w.heap.size, 2, none⟩ = some (.slice LA l.length lcap) := hF1.cell (by go_simp) (by simp only [hnew]; omega)
      have HT1 := Lib.hid (hF1.same w.heap.size (by simp))
      have HI1 := Lib.hid (HI.out.ext HIE.out hF1 (fun t h => by omega))
      have HIE1 := Lib.hid (HIE.out.fr hF1)
      have HO1 := Lib.hid (HO.out.fr hF1 (fun t h => by omega))
      have HF1 := Lib.hid ((HFa.out.mono (S' := fun t => 1 ≤ t.1) (fun _ h => h.elim)).trans (hF1.mono (fun t h => by omega)))
      clear hF1)
    | (
      go_at_call 17
      refine (few_ok HI1.out HO1.out HF1.out.dom).mono ?_
      rw [HFEW.out]
      rintro e wc ⟨rfl, hFx⟩
      have m0 := hFx.cellF k0
      have m1 := hFx.cellF k1
      have m2 := hFx.cellF k2
      have HTc := Lib.hid ((hFx.same w.heap.size (World.block_lt_of_cell? w1 _ k0)).trans HT1.out)
      have HIc := Lib.hid (HI1.out.frF hFx)
      have HIEc := Lib.hid (HIE1.out.fr hFx)
      have HOc := Lib.hid (HO1.out.fr hFx (fun _ h => h.elim))
      have HFc := Lib.hid (HF1.out.trans (hFx.mono (S' := fun t => 1 ≤ t.1) (fun _ h => h.elim)))
      clear hFx k0 k1 k2)
      | (
        go_at_call 30
        refine (rnew_bad places items HIc.out HV.out).mono ?_
        rintro e w' ⟨rfl, hw⟩
        replace hw := hw.symm
        subst hw))
      go_ret
      exact ⟨rfl, T1, HFc.out⟩
    · obtain ⟨hp1, hp2, hright⟩ : 1 ≤ places ∧ places ≤ 32 ∧ rightB items places = true := by
        simp only [not_or, Bool.not_eq_false, Int.not_lt] at hv
        exact hv
      clear hv
      obtain ⟨pl, rfl⟩ : ∃ pl : Nat, places = pl := ⟨places.toNat, by omega⟩
      have HRG := Lib.hid hright
      have hpl1 : 1 ≤ pl := by omega
      have hpl2 : pl ≤ 32 := by omega
      have HL32 := Lib.hid (rightB_mono hright (show (pl : Int) ≤ 32 by omega))
      have hi64 : items.length ≤ 64 := by have h := hright; simp [rightB] at h; exact h.1
      clear hright hp1 hp2
      obtain ⟨i0, hi, hz0, hz1, hz2⟩ := info_parts Try.info27
      go_enter Try.func7, Try.ntmps7
      go_upto_region 11 with (first
    | (
      go_at_call 16
      refine (HS HFa.out.dom (by omega)).mono ?_
      rintro e w1 ⟨rfl, T1, hF1, hok1⟩
      have k0 : w1.cell? ⟨w.heap.size, 0, none⟩ = some (.int .i64 (pl : Int)) := hF1.cell (by go_simp) (by simp only [hnew]; omega)
      have k1 : w1.cell? ⟨w.heap.size, 1, none⟩ = some (.slice IA items.length icap) := hF1.cell (by go_simp) (by simp only [hnew]; omega)
      have k2 : w1.cell? ⟨w.heap.size, 2, none⟩ = some (.slice LA l.length lcap) := hF1.cell (by go_simp) (by simp only [hnew]; omega)
      have HT1 := Lib.hid (hF1.same w.heap.size (by simp))
      have HI1 := Lib.hid (HI.out.ext HIE.out hF1 (fun t h => by omega))
      have HIE1 := Lib.hid (HIE.out.fr hF1)
      have HO1 := Lib.hid (HO.out.fr hF1 (fun t h => by omega))
      have HF1 := Lib.hid ((HFa.out.mono (S' := fun t => 1 ≤ t.1) (fun _ h => h.elim)).trans (hF1.mono (fun t h => by omega)))
      clear hF1)
    | (
      go_at_call 17
      refine (few_ok HI1.out HO1.out HF1.out.dom).mono ?_
      rw [HFEW.out]
      rintro e wc ⟨rfl, hFx⟩
      have m0 := hFx.cellF k0
      have m1 := hFx.cellF k1
      have m2 := hFx.cellF k2
      have HTc := Lib.hid ((hFx.same w.heap.size (World.block_lt_of_cell? w1 _ k0)).trans HT1.out)
      have HIc := Lib.hid (HI1.out.frF hFx)
      have HIEc := Lib.hid (HIE1.out.fr hFx)
      have HOc := Lib.hid (HO1.out.fr hFx (fun _ h => h.elim))
      have HFc := Lib.hid (HF1.out.trans (hFx.mono (S' := fun t => 1 ≤ t.1) (fun _ h => h.elim)))
      clear hFx k0 k1 k2)
      | (
        go_at_call 30
        refine (rnew_ok 140 pl items HIc.out HIEc.out HFc.out.dom (by omega) hpl1 hpl2 HRG.out).mono ?_
        rintro e w3 ⟨q, rfl, T3, Ps, yv, ys, _, _, _, _, hF3⟩
        have n0 := hF3.cell m0 (by simp only [HTc.out, hnew]; omega)
        have n1 := hF3.cell m1 (by simp only [HTc.out, hnew]; omega)
        have n2 := hF3.cell m2 (by simp only [HTc.out, hnew]; omega)
        have HT3 := Lib.hid ((hF3.same w.heap.size (World.block_lt_of_cell? wc _ m0)).trans HTc.out)
        have HI3 := Lib.hid (HIc.out.ext HIEc.out hF3 (fun t h => by omega))
        have HIE3 := Lib.hid (HIEc.out.fr hF3)
        have HO3 := Lib.hid (HOc.out.fr hF3 (fun t h => by omega))
        have HF3 := Lib.hid (HFc.out.trans (hF3.mono (fun t h => by omega)))
        clear hF3 m0 m1 m2)
      | (
        go_at_call 29
        refine (p_new 100 pl items HI3.out HIE3.out HF3.out.dom (by omega) hpl1 hpl2 HRG.out).mono ?_
        rintro e w4 ⟨p, rfl, T4, hL4, hF4⟩
        have o0 := hF4.cell n0 (by simp only [HT3.out, hnew]; omega)
        have o1 := hF4.cell n1 (by simp only [HT3.out, hnew]; omega)
        have o2 := hF4.cell n2 (by simp only [HT3.out, hnew]; omega)
        have HT4 := Lib.hid ((hF4.same w.heap.size (World.block_lt_of_cell? w3 _ n0)).trans HT3.out)
        have HL4 := Lib.hid hL4
        have HI4 := Lib.hid (HI3.out.ext HIE3.out hF4 (fun t h => by omega))
        have HIE4 := Lib.hid (HIE3.out.fr hF4)
        have HO4 := Lib.hid (HO3.out.fr hF4 (fun t h => by omega))
        have HF4 := Lib.hid (HF3.out.trans (hF4.mono (fun t h => by omega)))
        clear hF4 hL4 n0 n1 n2))
      go_wp2_with fail
      have HK := Lib.hid (And.intro o0 (And.intro o1 o2))
      clear o0 o1 o2
      go_loopw [63, 7] (fun i a wr => ∃ n : Nat, n ≤ pl ∧ i = .int .i64 n ∧ ∃ (Ps : List PlaceM) (Tr : Nat → Tag) (A2 : Option Addr) (cap2 : Nat), a = .slice A2 n cap2 ∧ Hid (Ps.length = n) ∧ Hid (∀ (j : Nat) P, Ps[j]? = some P → Begun P j items items) ∧ Hid (∀ (j : Nat) P, Ps[j]? = some P → PRep Tr (501 + j) wr P) ∧
        Hid (Row Tr (760, 0, 0) 27 1 wr (.slice A2 n cap2) n (Ps.map placePtr)) ∧ Hid (Fr (fun t => (501 ≤ t.1 ∧ t.1 ≤ 533) ∨ t.1 = 760) T4 Tr w4 wr)) (fun i _ _ => pl - (intOf i).toNat)
      case atStart => exact ⟨0, Nat.zero_le _, rfl, [], T4, none, 0, rfl, Lib.hid rfl, Lib.hid (fun j P h => by simp at h), Lib.hid (fun j P h => by simp at h), Lib.hid (Row.nil _ _ _ _ _), Lib.hid (Fr.refl HF4.out.dom)⟩
      case round =>
        obtain ⟨n, hn, rfl, Ps, Tr, A2, cap2, rfl, HPL, HBG, HPR, HRW, HFr⟩ := hrel
        by_cases hlt : n < pl
        · have hrr := HI4.out.ext HIE4.out HFr.out (fun t h => by omega)
          have her := HIE4.out.fr HFr.out
          have HNP := Lib.hid (newPlace_ok (501 + n) (n : Int) items wr hrr her HFr.out.dom (by omega) (by omega) (by omega) HL32.out)
          have o1 : wr.cell? ⟨w.heap.size, 1, none⟩ = some (.slice IA items.length icap) := HFr.out.cell HK.out.2.1 (by simp only [HT4.out, hnew]; omega)
          clear hrr her
          go_wp2_with (first
          | (
            go_at_call 18
            refine HNP.out.mono ?_
            rintro e w5 ⟨P, rfl, hB, T5, hP, hF5⟩
            have HB5 := Lib.hid hB
            have HP5 := Lib.hid hP
            have HR5 := Lib.hid (HRW.out.fr hF5 (by simp only; omega))
            have HF5 := Lib.hid hF5
            have hok5 := hF5.dom
            clear hB hP hF5)
          | (
            at_builtin
            refine append_list rfl (.tmp 79) (.tmp 81) 81 rfl (by rfl) (by rfl) (HR5.out.alloc _) (hok5.alloc _) Try.underlying81 hi hz0 hz1 hz2 rfl (by decide) [.pointer (some ⟨P.ptr, 0, none⟩)] rfl (news_at (Go.Ng.heap_alloc_at _ _)) (by simp [Value.oneCell']) (by decide) (by unfold maxLen; omega) (by omega) ?_
            intro g6 cap6 w6 T6 hrow hfr
            have HROW := Lib.hid hrow
            have HF6 := Lib.hid ((Fr.alloc (S := fun t => t = (760, 0, 0)) hok5 (.cells #[.pointer (some ⟨P.ptr, 0, none⟩)] 27)).trans hfr)
            clear hrow hfr))
          go_roundw
          case rel =>
            have hpl' := HPL.out
            refine ⟨n + 1, by omega, by go_num, Ps ++ [P], T6, some ⟨g6, 0, none⟩, cap6, rfl, Lib.hid (by rw [List.length_append, hpl']; rfl), Lib.hid (fun j Q hQ => ?_), Lib.hid (fun j Q hQ => ?_), Lib.hid ?_, Lib.hid (HFr.out.trans ((HF5.out.mono (fun t h => by omega)).trans (HF6.out.mono (fun t h => by subst h; exact .inr rfl))))⟩
            · rw [List.getElem?_append] at hQ
              split at hQ
              · exact HBG.out j Q hQ
              · have : j = n := by
                  by_cases e : j - Ps.length = 0
                  · omega
                  · rw [List.getElem?_eq_none (by simp; omega)] at hQ; cases hQ
                subst this
                rw [hpl'] at hQ
                simp at hQ
                subst hQ
                exact HB5.out
            · rw [List.getElem?_append] at hQ
              split at hQ
              · exact ((HPR.out j Q hQ).fr HF5.out (fun r k h => by simp only at h; omega)).fr HF6.out (fun r k h => by simp only [Prod.mk.injEq] at h; omega)
              · have : j = n := by
                  by_cases e : j - Ps.length = 0
                  · omega
                  · rw [List.getElem?_eq_none (by simp; omega)] at hQ; cases hQ
                subst this
                rw [hpl'] at hQ
                simp at hQ
                subst hQ
                exact HP5.out.fr HF6.out (fun r k h => by simp only [Prod.mk.injEq] at h; omega)
            · rw [List.map_append]
              exact HROW.out
          case measure => simp [intOf]; omega
        · have hnn : n = pl := by omega
          subst hnn
          have hOP : OwnP Tr wr Ps (beginG n items) := ⟨HPR.out, _, rfl, begin_abs (N := ⟨0, Ps, items, [], [], [], List.replicate items.length [], []⟩) ⟨hpl1, hpl2⟩ HRG.out ⟨0, Ps, rfl, HPL.out, HBG.out⟩⟩
          obtain ⟨pp, hpp⟩ : ∃ x, x = Ps.map placePtr := ⟨_, rfl⟩
          have hrw := HRW.out
          rw [← hpp] at hrw
          obtain ⟨_, _, hcap⟩ : ∃ _ : True, n ≤ cap2 ∧ cap2 ≤ maxLen := ⟨trivial, by obtain ⟨A', c', h1, h2, h3⟩ := hrw.form; injection h1 with _ _ h1; subst h1; exact ⟨h2, h3⟩⟩
          have HOP := Lib.hid hOP
          have HRW8 := Lib.hid hrw
          have HPP := Lib.hid hpp
          have HL8 := Lib.hid (HL4.out.fr HFr.out (fun t h => by omega))
          have HO8 := Lib.hid (HO4.out.fr HFr.out (fun t h => by omega))
          have o2 : wr.cell? ⟨w.heap.size, 2, none⟩ = some (.slice LA l.length lcap) := HFr.out.cell HK.out.2.2 (by simp only [HT4.out, hnew]; omega)
          have HF8 := Lib.hid (HF4.out.trans (HFr.out.mono (S' := fun t => 1 ≤ t.1) (fun t h => by omega)))
          unfold maxLen at hcap
          clear hOP hpp hrw hi hz0 hz1 hz2
          go_wp2_with fail
          go_loopw [87, 11] (fun i f wq => ∃ m : Nat, m ≤ l.length ∧ i = .int .i64 m ∧ ∃ (g : G) (Qs : List PlaceM) (Tq : Nat → Tag) (A3 : Option Addr) (cap3 : Nat), f = .slice A3 g.fl.length cap3 ∧ Hid (LiveP Tq 100 wq p g m) ∧ Hid (OwnP Tq wq Qs g) ∧ Hid (Qs.map placePtr = pp) ∧ Hid (g.places = n) ∧ Hid (Row Tq (750, 0, 0) 49 6 wq (.slice A3 g.fl.length cap3) g.fl.length (posts g.fl)) ∧
            Hid (Fr (fun t => (100 ≤ t.1 ∧ t.1 ≤ 132) ∨ (501 ≤ t.1 ∧ t.1 ≤ 533) ∨ t.1 = 750) Tr Tq wr wq)) (fun i _ _ => l.length - (intOf i).toNat)
          case atStart => exact ⟨0, Nat.zero_le _, rfl, beginG n items, Ps, Tr, none, 0, rfl, HL8, HOP, Lib.hid HPP.out.symm, Lib.hid rfl, Lib.hid (Row.nil _ _ _ _ _), Lib.hid (Fr.refl HF8.out.dom)⟩
          case round =>
            obtain ⟨m, hm, rfl, g, Qs, Tq, A3, cap3, rfl, HLq, HOq, HQP, HGP, HFLq, HFq⟩ := hrel
            by_cases hmt : m < l.length
            · obtain ⟨⟨ok, on, cs⟩, hx⟩ : ∃ o, l[m]? = some o := ⟨_, List.getElem?_eq_getElem hmt⟩
              obtain ⟨ob, ooff, ocap', u, hov, z0, z1, z2, hxr⟩ := (HO8.out.fr HFq.out (fun t h => by omega)).get hx
              injection hov with hov _ hov2
              subst hov hov2
              simp only at z0 z1 z2 hxr
              obtain ⟨UA, ucap, rfl, u2⟩ := hxr.slice
              have hcap3 : g.fl.length ≤ cap3 ∧ cap3 ≤ maxLen := by
                obtain ⟨A', c', h1, h2, h3⟩ := HFLq.out.form
                injection h1 with _ _ h1
                subst h1
                exact ⟨h2, h3⟩
              have hfl := HLq.out.fl (by omega)
              unfold maxLen at u2 hcap3
              have HXO := Lib.hid hxr
              have i5 : (0 : Int) ≤ (m : Int) := by omega
              have i6 : (m : Int) < (l.length : Int) := by omega
              have hokr := HFq.out.dom
              clear hx hxr
              go_upto_region 24 with fail
              obtain ⟨w9, hw9⟩ : ∃ w9, w9 = wr.alloc (.cells #[.int .i64 ok, .int .i64 on, .slice UA cs.length ucap] 36) := ⟨_, rfl⟩
              obtain ⟨bo, hbo⟩ : ∃ bo, bo = wr.heap.size := ⟨_, rfl⟩
              have hF9 : Fr (fun _ => False) Tq Tq wr w9 := by rw [hw9]; exact Fr.alloc hokr _
              have a0 : w9.cell? ⟨bo, 0, none⟩ = some (.int .i64 ok) := by rw [hw9, hbo]; go_simp
              have a1 : w9.cell? ⟨bo, 1, none⟩ = some (.int .i64 on) := by rw [hw9, hbo]; go_simp
              have a2 : w9.cell? ⟨bo, 2, none⟩ = some (.slice UA cs.length ucap) := by rw [hw9, hbo]; go_simp
              have hbot : (Tq bo).1 = 0 := by rw [hbo]; exact hokr.new
              rw [← hw9, ← hbo]
              have HBO := Lib.hid hbot
              have HL9 := Lib.hid (HLq.out.frF hF9)
              have HO9 := Lib.hid (HOq.out.frF hF9)
              have HX9 := Lib.hid (HXO.out.frF hF9)
              have HFL9 := Lib.hid (HFLq.out.fr hF9 (fun x => x))
              have HRW9 := Lib.hid ((HRW8.out.fr HFq.out (by simp)).fr hF9 (fun x => x))
              have HF9 := Lib.hid (HFq.out.trans (hF9.mono (fun _ h => h.elim)))
              clear hw9 hbo hF9 z0 z1 z2 hokr hbot
              go_upto_region 25 with (
                go_at_call 42
                refine (p_flight (300, 0, 0) HL9.out (by omega)).mono ?_
                rintro e w10 ⟨v10, rfl, T10, hrow, hF10⟩
                obtain ⟨A10, c10, rfl, _, _⟩ := hrow.form
                have b0 := hF10.cellF a0
                have b1 := hF10.cellF a1
                have b2 := hF10.cellF a2
                have HBT := Lib.hid ((hF10.same bo (World.block_lt_of_cell? _ _ a0)))
                have HL10 := Lib.hid (HL9.out.frF hF10)
                have HO10 := Lib.hid (HO9.out.frF hF10)
                have HX10 := Lib.hid (HX9.out.frF hF10)
                have HFL10 := Lib.hid (HFL9.out.fr hF10 (fun x => x))
                have HRW10 := Lib.hid (HRW9.out.fr hF10 (fun x => x))
                have HXR := Lib.hid hrow
                have HF10 := Lib.hid (HF9.out.trans (hF10.mono (fun _ h => h.elim)))
                clear hrow hF10 a0 a1 a2)
              have HBO10 : Hid ((T10 bo).1 = 0) := Lib.hid (by rw [HBT.out]; exact HBO.out)
              by_cases hk2 : ok = 2 ∧ (doL g on).2.2.2 = 0
              · as_aux_lemma =>
                  obtain ⟨rfl, he⟩ := hk2
                  obtain ⟨i, mm, rfl, hmm, hdo⟩ := doL_at' he
                  obtain ⟨q, hq, hqn⟩ := HO10.out.dst HL10.out.good (List.mem_of_getElem? hmm)
                  obtain ⟨P, hP⟩ := HO10.out.ptr hqn
                  have hil := (List.getElem?_eq_some_iff.1 hmm).1
                  have hqn2 : q < n := by rw [← HGP.out]; exact hqn
                  have hcle := came_le g mm
                  obtain ⟨k0, k1, k2, k3, k4, k5⟩ := mm
                  simp only at hq
                  subst hq
                  obtain ⟨g', hg'⟩ : ∃ x, x = g.deliverG i ⟨k0, k1, (q : Int), k3, k4, k5⟩ := ⟨_, rfl⟩
                  obtain ⟨rc, hrc⟩ : ∃ x, x = (g.takeG ⟨k0, k1, (q : Int), k3, k4, k5⟩).2.2 := ⟨_, rfl⟩
                  have hDM := p_do2 HL10.out (by omega) hmm HX10.out
                  have hTK := fun (T : Nat → Tag) (W : World) (hO : OwnP T W Qs g) (hT : TagOk T W) => own_take hO HL10.out.good (HL10.out.smallG (by omega)) hT hP hmm rfl
                  rw [← hg', ← hrc] at hDM
                  simp only [← hg', ← hrc] at hTK
                  rw [← hrc] at hcle
                  have HDM := Lib.hid hDM
                  have HTK := Lib.hid hTK
                  have HMM := Lib.hid hmm
                  have HPL : Hid (g'.places = n) := Lib.hid (by rw [hg']; exact (takeG_same (g := g) _).2.2.2.2.1.trans HGP.out)
                  have HP := Lib.hid hP
                  have i7 : (0 : Int) ≤ (i : Int) := by omega
                  have i8 : (i : Int) < (g.fl.length : Int) := by omega
                  have i9 : (0 : Int) ≤ (q : Int) := by omega
                  have i10 : (q : Int) < (n : Int) := by omega
                  have j1 : decide ((q : Int) < 0) = false := decide_eq_false (by omega)
                  have j2 : decide ((n : Int) ≤ (q : Int)) = false := decide_eq_false (by omega)
                  have j3 : decide (n ≤ q) = false := decide_eq_false (by omega)
                  have j4 : decide ((g.fl.length : Int) ≤ (i : Int)) = false := decide_eq_false (by omega)
                  have j5 : decide (g.fl.length ≤ i) = false := decide_eq_false (by omega)
                  clear he hdo hmm hqn hDM hTK hP hg' hrc
                  go_upto_region 29 with (
                    go_at_call 31
                    refine HDM.out.mono ?_
                    rintro e w11 ⟨cv, rfl, T11, tt, hL11, hcv, htt, hF11⟩
                    obtain ⟨A11, c11, rfl, _, _⟩ := hcv.form
                    have b0' : w11.cell? ⟨bo, 0, none⟩ = some (.int .i64 2) := hF11.cell b0 (by simp only [HBO10.out]; omega)
                    have b1' : w11.cell? ⟨bo, 1, none⟩ = some (.int .i64 (i : Int)) := hF11.cell b1 (by simp only [HBO10.out]; omega)
                    have b2' : w11.cell? ⟨bo, 2, none⟩ = some (.slice UA cs.length ucap) := hF11.cell b2 (by simp only [HBO10.out]; omega)
                    have HBO11 : Hid ((T11 bo).1 = 0) := Lib.hid (by rw [hF11.same bo (World.block_lt_of_cell? _ _ b0)]; exact HBO10.out)
                    have HL11 := Lib.hid (hL11.more (Nat.le_succ m))
                    have HCV11 := Lib.hid hcv
                    have HTT := Lib.hid htt
                    have HO11 := Lib.hid (HO10.out.fr hF11 (fun t h => by omega))
                    have HFL11 := Lib.hid (HFL10.out.fr hF11 (by simp))
                    have HRW11 := Lib.hid (HRW10.out.fr hF11 (by simp))
                    have HXR11 := Lib.hid (HXR.out.fr hF11 (by simp))
                    have HF11 := Lib.hid (HF10.out.trans (hF11.mono (fun t h => .inl h)))
                    clear hL11 hcv htt hF11 b0 b1 b2)
                  obtain ⟨i0, hi, hz0, hz1, hz2⟩ := info_parts Try.info49
                  obtain ⟨xb, rfl, _, _, hce⟩ := Row.elem (enc := Post.cells) HXR11.out (fun _ => rfl) (by decide) HMM.out
                  have c0 : w11.cell? ⟨xb, i * 6, none⟩ = some (.int .i64 k0) := hce 0 _ rfl
                  have c1 : w11.cell? ⟨xb, i * 6 + 1, none⟩ = some (.int .i64 k1) := hce 1 _ rfl
                  have c2 : w11.cell? ⟨xb, i * 6 + 2, none⟩ = some (.int .i64 (q : Int)) := hce 2 _ rfl
                  have c3 : w11.cell? ⟨xb, i * 6 + 3, none⟩ = some (.int .i64 k3) := hce 3 _ rfl
                  have c4 : w11.cell? ⟨xb, i * 6 + 4, none⟩ = some (.int .i64 k4) := hce 4 _ rfl
                  have c5 : w11.cell? ⟨xb, i * 6 + 5, none⟩ = some (.int .i64 k5) := hce 5 _ rfl
                  clear hce
                  go_upto_region 46 with fail
                  obtain ⟨w12, hw12⟩ : ∃ w12, w12 = w11.alloc (.cells #[.int .i64 k0, .int .i64 k1, .int .i64 (q : Int), .int .i64 k3, .int .i64 k4, .int .i64 k5] 49) := ⟨_, rfl⟩
                  obtain ⟨bp, hbp⟩ : ∃ bp, bp = w11.heap.size := ⟨_, rfl⟩
                  have hF12 : Fr (fun _ => False) T11 T11 w11 w12 := by rw [hw12]; exact Fr.alloc HF11.out.dom _
                  have d0 : w12.cell? ⟨bp, 0, none⟩ = some (.int .i64 k0) := by rw [hw12, hbp]; go_simp
                  have d1 : w12.cell? ⟨bp, 1, none⟩ = some (.int .i64 k1) := by rw [hw12, hbp]; go_simp
                  have d2 : w12.cell? ⟨bp, 2, none⟩ = some (.int .i64 (q : Int)) := by rw [hw12, hbp]; go_simp
                  have d3 : w12.cell? ⟨bp, 3, none⟩ = some (.int .i64 k3) := by rw [hw12, hbp]; go_simp
                  have d4 : w12.cell? ⟨bp, 4, none⟩ = some (.int .i64 k4) := by rw [hw12, hbp]; go_simp
                  have d5 : w12.cell? ⟨bp, 5, none⟩ = some (.int .i64 k5) := by rw [hw12, hbp]; go_simp
                  have e1 := hF12.cellF b1'
                  rw [← hw12, ← hbp]
                  have HL12 := Lib.hid (HL11.out.frF hF12)
                  have HCV12 := Lib.hid (HCV11.out.fr hF12 (fun x => x))
                  have HO12 := Lib.hid (HO11.out.frF hF12)
                  have HFL12 := Lib.hid (HFL11.out.fr hF12 (fun x => x))
                  have HRW12 := Lib.hid (HRW11.out.fr hF12 (fun x => x))
                  have HF12 := Lib.hid (HF11.out.trans (hF12.mono (fun _ h => h.elim)))
                  clear hw12 hbp hF12 b0' b1' b2' c0 c1 c2 c3 c4 c5
                  obtain ⟨pb, rfl, _, _, hpc⟩ := HRW12.out.cell rfl (j := q) (by rw [← HQP.out, List.length_map, HO12.out.len, HGP.out]; exact hqn2)
                  have pc : w12.cell? ⟨pb, q, none⟩ = some (.pointer (some ⟨P.ptr, 0, none⟩)) := by rw [hpc, ← HQP.out, List.getElem?_map, HP.out]; rfl
                  have hFd : Fr (fun _ => False) T11 T11 w12 w12.drew := (Fr.refl HF12.out.dom).dr
                  have HFd := Lib.hid hFd
                  have HSD := Lib.hid (And.intro (hFd.cellF pc) (And.intro (hFd.cellF d0) (And.intro (hFd.cellF d1) (And.intro (hFd.cellF d2) (And.intro (hFd.cellF d3) (And.intro (hFd.cellF d4) (hFd.cellF d5)))))))
                  clear hpc hFd
                  go_upto_region 48 with fail
                  clear pc d0 d1 d2 d3 d4 d5
                  refine start_ (n := 14) (S := fun w' => w'.cell? ⟨pb, q, none⟩ = some (.pointer (some ⟨P.ptr, 0, none⟩)) ∧ w'.cell? ⟨bp, 0, none⟩ = some (.int .i64 k0) ∧ w'.cell? ⟨bp, 1, none⟩ = some (.int .i64 k1) ∧ w'.cell? ⟨bp, 2, none⟩ = some (.int .i64 (q : Int)) ∧ w'.cell? ⟨bp, 3, none⟩ = some (.int .i64 k3) ∧ w'.cell? ⟨bp, 4, none⟩ = some (.int .i64 k4) ∧ w'.cell? ⟨bp, 5, none⟩ = some (.int .i64 k5)) (ds := [6]) #[false, false, false, false, false, false, false, false, false, false, false, false, false, false] (by kernel_rfl) rfl rfl ⟨HSD.out.1, HSD.out.2.1, HSD.out.2.2.1, HSD.out.2.2.2.1, HSD.out.2.2.2.2.1, HSD.out.2.2.2.2.2.1, HSD.out.2.2.2.2.2.2⟩ (fun hHeld => ?_)
                  refine pure_ (i := 0) (N := some 202) (v := ?_) (a' := ?_) #[true, false, false, false, false, false, false, false, false, false, false, false, false, false] rfl rfl (by kernel_rfl) (fun _ _ _ h => h) (Or.inl ⟨by rfl, ?_⟩) ?_ ?_
                  rotate_left
                  · intro w'
                    go_simp
                    with_reducible rfl
                  rotate_left
                  · simp only [Act.put, List.setIfInBounds_toArray, List.set_cons_zero, List.set_cons_succ, i64_w, i32_w]
                    rfl
                  refine pure_ (i := 1) (N := some 203) (v := ?_) (a' := ?_) #[true, true, false, false, false, false, false, false, false, false, false, false, false, false] rfl rfl (by kernel_rfl) (fun _ _ _ h => h) (Or.inl ⟨by rfl, ?_⟩) ?_ ?_
                  rotate_left
                  · intro w'
                    go_simp
                    with_reducible rfl
                  rotate_left
                  · simp only [Act.put, List.setIfInBounds_toArray, List.set_cons_zero, List.set_cons_succ, i64_w, i32_w]
                    rfl
                  refine take_ (i := 2) (N := some 204) (v := ?_) (a' := ?_) #[true, true, true, false, false, false, false, false, false, false, false, false, false, false] rfl rfl (by kernel_rfl) (fun _ _ _ h => h) (Or.inl ⟨by rfl, ?_⟩) hHeld ?_ ?_
                  rotate_left
                  · rintro w' ⟨s0, s1, s2, s3, s4, s5, s6⟩
                    go_simp
                    with_reducible rfl
                  rotate_left
                  · simp only [Act.put, List.setIfInBounds_toArray, List.set_cons_zero, List.set_cons_succ, i64_w, i32_w]
                    rfl
                  refine pure_ (i := 3) (N := some 205) (v := ?_) (a' := ?_) #[true, true, true, true, false, false, false, false, false, false, false, false, false, false] rfl rfl (by kernel_rfl) (fun _ _ _ h => h) (Or.inl ⟨by rfl, ?_⟩) ?_ ?_
                  rotate_left
                  · intro w'
                    go_simp
                    with_reducible rfl
                  rotate_left
                  · simp only [Act.put, List.setIfInBounds_toArray, List.set_cons_zero, List.set_cons_succ, i64_w, i32_w]
                    rfl
                  refine take_ (i := 4) (N := some 206) (v := ?_) (a' := ?_) #[true, true, true, true, true, false, false, false, false, false, false, false, false, false] rfl rfl (by kernel_rfl) (fun _ _ _ h => h) (Or.inl ⟨by rfl, ?_⟩) hHeld ?_ ?_
                  rotate_left
                  · rintro w' ⟨s0, s1, s2, s3, s4, s5, s6⟩
                    go_simp
                    with_reducible rfl
                  rotate_left
                  · simp only [Act.put, List.setIfInBounds_toArray, List.set_cons_zero, List.set_cons_succ, i64_w, i32_w]
                    rfl
                  refine take_ (i := 5) (N := some 207) (v := ?_) (a' := ?_) #[true, true, true, true, true, true, false, false, false, false, false, false, false, false] rfl rfl (by kernel_rfl) (fun _ _ _ h => h) (Or.inl ⟨by rfl, ?_⟩) hHeld ?_ ?_
                  rotate_left
                  · rintro w' ⟨s0, s1, s2, s3, s4, s5, s6⟩
                    go_simp
                    with_reducible rfl
                  rotate_left
                  · simp only [Act.put, List.setIfInBounds_toArray, List.set_cons_zero, List.set_cons_succ, i64_w, i32_w]
                    rfl
                  refine last_ (i := 6) (N := some 208) #[true, true, true, true, true, true, true, false, false, false, false, false, false, false] rfl rfl (by kernel_rfl) (by decide) (fun K hK => ?_)
                  refine goes_ Try.func25 (by kernel_rfl) rfl #[.pointer (some ⟨P.ptr, 0, none⟩), .agg #[.int .i64 k0, .int .i64 k1, .int .i64 (q : Int), .int .i64 k3, .int .i64 k4, .int .i64 k5]] (by rfl) rfl rfl (by simp only [List.map_toArray, List.map_cons, List.map_nil]; rfl) ?_
                  refine Calls.mono (HTK.out T11 w12.drew (HO12.out.frF HFd.out) HFd.out.dom) ?_
                  rintro e w13 ⟨ov, cv2, rfl, T13, Qs', out, hro, hrc2, hfl', hO13, hqp', hF13⟩
                  obtain ⟨OA, ocap, rfl, _, _⟩ := hro.form
                  obtain ⟨VA2, vcap2, rfl, _, _⟩ := hrc2.form
                  have f1 : w13.cell? ⟨bo, 1, none⟩ = some (.int .i64 (i : Int)) := hF13.cell (HFd.out.cellF e1) (by simp only [HBO11.out]; omega)
                  have HRO := Lib.hid (hro.rd (posts_one' _))
                  have HROT := Lib.hid hro
                  have HRC2 := Lib.hid hrc2
                  have HFLE := Lib.hid hfl'
                  have HO13 := Lib.hid hO13
                  have HQP13 := Lib.hid (hqp'.trans HQP.out)
                  have HL13 := Lib.hid ((HL12.out.frF HFd.out).fr hF13 (fun t h => by omega))
                  have HCV13 := Lib.hid ((HCV12.out.fr HFd.out (fun x => x)).fr hF13 (by have := HTT.out; omega))
                  have HFL13 := Lib.hid ((HFL12.out.fr HFd.out (fun x => x)).fr hF13 (by simp))
                  have HF13 := Lib.hid (HF12.out.trans ((HFd.out.mono (fun _ h => h.elim)).trans (hF13.mono (fun t h => .inr (.inl h)))))
                  clear hro hrc2 hfl' hO13 hqp' hF13
                  refine ⟨_, rfl, ?_⟩
                  refine hK.out _ _ ?_
                  clear hK K
                  refine norm_ (a' := ?_) ?_ ?_
                  rotate_left
                  · show Act.put _ (some 208) _ = _
                    simp only [Act.put, List.setIfInBounds_toArray, List.set_cons_zero, List.set_cons_succ, i64_w, i32_w]
                    rfl
                  refine pure_ (i := 7) (N := some 201) (v := ?_) (a' := ?_) #[true, true, true, true, true, true, true, true, false, false, false, false, false, false] rfl rfl (by kernel_rfl) (fun _ _ _ h => h) (Or.inl ⟨by rfl, ?_⟩) ?_ ?_
                  rotate_left
                  · intro w'
                    go_simp
                    with_reducible rfl
                  rotate_left
                  · simp only [Act.put, List.setIfInBounds_toArray, List.set_cons_zero, List.set_cons_succ, i64_w, i32_w]
                    rfl
                  refine pure_ (i := 8) (N := some 209) (v := ?_) (a' := ?_) #[true, true, true, true, true, true, true, true, true, false, false, false, false, false] rfl rfl (by kernel_rfl) (fun _ _ _ h => h) (Or.inl ⟨by rfl, ?_⟩) ?_ ?_
                  rotate_left
                  · intro w'
                    go_simp
                    with_reducible rfl
                  rotate_left
                  · simp only [Act.put, List.setIfInBounds_toArray, List.set_cons_zero, List.set_cons_succ, i64_w, i32_w]
                    rfl
                  refine pure_ (i := 9) (N := some 210) (v := ?_) (a' := ?_) #[true, true, true, true, true, true, true, true, true, true, false, false, false, false] rfl rfl (by kernel_rfl) (fun _ _ _ h => h) (Or.inl ⟨by rfl, ?_⟩) ?_ ?_
                  rotate_left
                  · intro w'
                    go_simp
                    with_reducible rfl
                  rotate_left
                  · simp only [Act.put, List.setIfInBounds_toArray, List.set_cons_zero, List.set_cons_succ, i64_w, i32_w]
                    rfl
                  refine pure_ (i := 10) (N := some 211) (v := ?_) (a' := ?_) #[true, true, true, true, true, true, true, true, true, true, true, false, false, false] rfl rfl (by kernel_rfl) (fun _ _ _ h => h) (Or.inl ⟨by rfl, ?_⟩) ?_ ?_
                  rotate_left
                  · intro w'
                    go_simp
                    with_reducible rfl
                  rotate_left
                  · simp only [Act.put, List.setIfInBounds_toArray, List.set_cons_zero, List.set_cons_succ, i64_w, i32_w]
                    rfl
                  refine pure_ (i := 11) (N := some 26) (v := ?_) (a' := ?_) #[true, true, true, true, true, true, true, true, true, true, true, true, false, false] rfl rfl (by kernel_rfl) (fun _ _ _ h => h) (Or.inl ⟨by rfl, ?_⟩) ?_ ?_
                  rotate_left
                  · intro w'
                    go_simp
                    with_reducible rfl
                  rotate_left
                  · simp only [Act.put, List.setIfInBounds_toArray, List.set_cons_zero, List.set_cons_succ, i64_w, i32_w]
                    rfl
                  refine pure_ (i := 12) (N := some 27) (v := ?_) (a' := ?_) #[true, true, true, true, true, true, true, true, true, true, true, true, true, false] rfl rfl (by kernel_rfl) (fun _ _ _ h => h) (Or.inl ⟨by rfl, ?_⟩) ?_ ?_
                  rotate_left
                  · intro w'
                    go_simp
                    with_reducible rfl
                  rotate_left
                  · simp only [Act.put, List.setIfInBounds_toArray, List.set_cons_zero, List.set_cons_succ, i64_w, i32_w]
                    rfl
                  refine pure_ (i := 13) (N := some 28) (v := ?_) (a' := ?_) #[true, true, true, true, true, true, true, true, true, true, true, true, true, true] rfl rfl (by kernel_rfl) (fun _ _ _ h => h) (Or.inl ⟨by rfl, ?_⟩) ?_ ?_
                  rotate_left
                  · intro w'
                    go_simp
                    with_reducible rfl
                  rotate_left
                  · simp only [Act.put, List.setIfInBounds_toArray, List.set_cons_zero, List.set_cons_succ, i64_w, i32_w]
                    rfl
                  refine done_ (by kernel_rfl) ?_
                  clear hHeld
                  have hfl' := HL13.out.fl (by omega)
                  have hlen' : g'.fl.length = g.fl.length - 1 + out.length := by rw [HFLE.out, List.length_append, List.length_eraseIdx, if_pos hil]
                  have hFe : Fr (fun _ => False) T13 T13 w13 w13.drew := (Fr.refl HF13.out.dom).dr
                  have HFe := Lib.hid hFe
                  have HSE := Lib.hid (hFe.cellF f1)
                  have HLEN := Lib.hid hlen'
                  have HWI : Hid (wrap64 ((i : Int) + 1) = (i : Int) + 1) := Lib.hid (wrap_small (by omega) (by omega))
                  have hob : out.length ≤ 20000 := by omega
                  clear hFe hlen'
                  go_upto_region 51 with fail
                  clear f1
                  refine start_ (n := 13) (S := fun w' => w'.cell? ⟨bo, 1, none⟩ = some (.int .i64 (i : Int))) (ds := [7, 9]) #[false, false, false, false, false, false, false, false, false, false, false, false, false] (by kernel_rfl) rfl rfl (HSE.out) (fun hHeld => ?_)
                  refine pure_ (i := 0) (N := some 214) (v := ?_) (a' := ?_) #[true, false, false, false, false, false, false, false, false, false, false, false, false] rfl rfl (by kernel_rfl) (fun _ _ _ h => h) (Or.inl ⟨by rfl, ?_⟩) ?_ ?_
                  rotate_left
                  · intro w'
                    go_simp
                    with_reducible rfl
                  rotate_left
                  · simp only [Act.put, List.setIfInBounds_toArray, List.set_cons_zero, List.set_cons_succ, i64_w, i32_w]
                    rfl
                  refine pure_ (i := 2) (N := some 216) (v := ?_) (a' := ?_) #[true, false, true, false, false, false, false, false, false, false, false, false, false] rfl rfl (by kernel_rfl) (fun _ _ _ h => h) (Or.inl ⟨by rfl, ?_⟩) ?_ ?_
                  rotate_left
                  · intro w'
                    go_simp
                    with_reducible rfl
                  rotate_left
                  · simp only [Act.put, List.setIfInBounds_toArray, List.set_cons_zero, List.set_cons_succ, i64_w, i32_w]
                    rfl
                  refine pure_ (i := 4) (N := some 218) (v := ?_) (a' := ?_) #[true, false, true, false, true, false, false, false, false, false, false, false, false] rfl rfl (by kernel_rfl) (fun _ _ _ h => h) (Or.inl ⟨by rfl, ?_⟩) ?_ ?_
                  rotate_left
                  · intro w'
                    go_simp
                    with_reducible rfl
                  rotate_left
                  · simp only [Act.put, List.setIfInBounds_toArray, List.set_cons_zero, List.set_cons_succ, i64_w, i32_w]
                    rfl
                  refine pure_ (i := 8) (N := some 222) (v := ?_) (a' := ?_) #[true, false, true, false, true, false, false, false, true, false, false, false, false] rfl rfl (by kernel_rfl) (fun _ _ _ h => h) (Or.inl ⟨by rfl, ?_⟩) ?_ ?_
                  rotate_left
                  · intro w'
                    go_simp
                    with_reducible rfl
                  rotate_left
                  · simp only [Act.put, List.setIfInBounds_toArray, List.set_cons_zero, List.set_cons_succ, i64_w, i32_w]
                    rfl
                  refine pure_ (i := 10) (N := some 224) (v := ?_) (a' := ?_) #[true, false, true, false, true, false, false, false, true, false, true, false, false] rfl rfl (by kernel_rfl) (fun _ _ _ h => h) (Or.inl ⟨by rfl, ?_⟩) ?_ ?_
                  rotate_left
                  · intro w'
                    go_simp
                    with_reducible rfl
                  rotate_left
                  · simp only [Act.put, List.setIfInBounds_toArray, List.set_cons_zero, List.set_cons_succ, i64_w, i32_w]
                    rfl
                  refine take_ (i := 3) (N := some 217) (v := ?_) (a' := ?_) #[true, false, true, true, true, false, false, false, true, false, true, false, false] rfl rfl (by kernel_rfl) (fun _ _ _ h => h) (Or.inl ⟨by rfl, ?_⟩) hHeld ?_ ?_
                  rotate_left
                  · intro w' s0
                    go_simp
                    with_reducible rfl
                  rotate_left
                  · simp only [Act.put, List.setIfInBounds_toArray, List.set_cons_zero, List.set_cons_succ, i64_w, i32_w]
                    rfl
                  refine take_ (i := 5) (N := some 219) (v := ?_) (a' := ?_) #[true, false, true, true, true, true, false, false, true, false, true, false, false] rfl rfl (by kernel_rfl) (fun _ _ _ h => h) (Or.inl ⟨by rfl, ?_⟩) hHeld ?_ ?_
                  rotate_left
                  · intro w' s0
                    go_simp
                    with_reducible rfl
                  rotate_left
                  · simp only [Act.put, List.setIfInBounds_toArray, List.set_cons_zero, List.set_cons_succ, i64_w, i32_w]
                    rfl
                  refine pure_ (i := 6) (N := some 220) (v := ?_) (a' := ?_) #[true, false, true, true, true, true, true, false, true, false, true, false, false] rfl rfl (by kernel_rfl) (fun _ _ _ h => h) (Or.inl ⟨by rfl, ?_⟩) ?_ ?_
                  rotate_left
                  · intro w'
                    go_simp
                    with_reducible rfl
                  rotate_left
                  · simp only [Act.put, List.setIfInBounds_toArray, List.set_cons_zero, List.set_cons_succ, i64_w, i32_w]
                    rfl
                  refine one_ (i := 1) (N := some 215) #[true, true, true, true, true, true, true, false, true, false, true, false, false] rfl rfl (by kernel_rfl) (by decide) (fun K hK => ?_)
                  refine goes_ Try.func47 (by kernel_rfl) rfl #[.slice A3 g.fl.length cap3] (by rfl) rfl rfl (by simp only [List.map_toArray, List.map_cons, List.map_nil]; rfl) ?_
                  refine (clone47_ok (750, 0, 0) g.fl.length (posts g.fl) w13.drew ((HFL13.out.rd (posts_one' _)).frF HFe.out) HFe.out.dom (by omega)).mono ?_
                  rintro e w14 ⟨v14, rfl, T14, hrow, hF14⟩
                  obtain ⟨A14, c14, rfl, _, _⟩ := hrow.form
                  have HR14 := Lib.hid hrow
                  have HF14 := Lib.hid (HFe.out.trans hF14)
                  have HF14x := Lib.hid hF14
                  clear hrow hF14
                  refine ⟨_, rfl, ?_⟩
                  refine hK.out _ _ (HF14x.out.cellF HSE.out) (fun hHeld => ?_)
                  clear hK K
                  refine norm_ (a' := ?_) ?_ ?_
                  rotate_left
                  · show Act.put _ (some 215) _ = _
                    simp only [Act.put, List.setIfInBounds_toArray, List.set_cons_zero, List.set_cons_succ, i64_w, i32_w]
                    rfl
                  refine last_ (i := 7) (N := some 221) #[true, true, true, true, true, true, true, true, true, false, true, false, false] rfl rfl (by kernel_rfl) (by decide) (fun K hK => ?_)
                  refine goes_ Try.func46 (by kernel_rfl) rfl #[.slice A14 g.fl.length c14, .int .i64 (i : Int), .int .i64 (wrap64 ((i : Int) + 1))] (by rfl) rfl rfl (by simp only [List.map_toArray, List.map_cons, List.map_nil]; rfl) ?_
                  have hdel := delete46_ok g.fl i w14 HR14.out HF14.out.dom hil (by omega)
                  rw [← HWI.out] at hdel
                  refine hdel.mono ?_
                  rintro e w15 ⟨v15, rfl, hrow, hF15⟩
                  obtain ⟨A15, c15, rfl, _, _⟩ := hrow.form
                  have HR15 := Lib.hid hrow
                  have HF15 := Lib.hid hF15
                  have HRO15 := Lib.hid ((HROT.out.fr HF14.out (fun x => x)).fr hF15 (by simp))
                  clear hrow hF15
                  refine ⟨_, rfl, ?_⟩
                  refine hK.out _ _ ?_
                  clear hK K
                  refine norm_ (a' := ?_) ?_ ?_
                  rotate_left
                  · show Act.put _ (some 221) _ = _
                    simp only [Act.put, List.setIfInBounds_toArray, List.set_cons_zero, List.set_cons_succ, i64_w, i32_w]
                    rfl
                  refine last_ (i := 9) (N := some 223) #[true, true, true, true, true, true, true, true, true, true, true, false, false] rfl rfl (by kernel_rfl) (by decide) (fun K hK => ?_)
                  refine append_any_arm (by rfl) rfl (.tmp 221) (.tmp 222) 24 rfl (by rfl) (by rfl) HR15.out HF15.out.dom Try.underlying24 hi hz0 hz1 hz2 rfl (by decide) (HRO15.out.rd (posts_one' _)) (by unfold maxLen; omega) (by omega) ?_
                  intro A16 cap16 w16 T16 hrow hfr
                  have HR16 := Lib.hid hrow
                  have HF16 := Lib.hid (HF15.out.trans hfr)
                  clear hrow hfr
                  refine hK.out _ _ ?_
                  clear hK K
                  refine norm_ (a' := ?_) ?_ ?_
                  rotate_left
                  · show Act.put _ (some 223) _ = _
                    simp only [Act.put, List.setIfInBounds_toArray, List.set_cons_zero, List.set_cons_succ, i64_w, i32_w]
                    rfl
                  refine pure_ (i := 11) (N := some 11) (v := ?_) (a' := ?_) #[true, true, true, true, true, true, true, true, true, true, true, true, false] rfl rfl (by kernel_rfl) (fun _ _ _ h => h) (Or.inl ⟨by rfl, ?_⟩) ?_ ?_
                  rotate_left
                  · intro w'
                    go_simp
                    with_reducible rfl
                  rotate_left
                  · simp only [Act.put, List.setIfInBounds_toArray, List.set_cons_zero, List.set_cons_succ, i64_w, i32_w]
                    rfl
                  refine pure_ (i := 12) (N := some 18) (v := ?_) (a' := ?_) #[true, true, true, true, true, true, true, true, true, true, true, true, true] rfl rfl (by kernel_rfl) (fun _ _ _ h => h) (Or.inl ⟨by rfl, ?_⟩) ?_ ?_
                  rotate_left
                  · intro w'
                    go_simp
                    with_reducible rfl
                  rotate_left
                  · simp only [Act.put, List.setIfInBounds_toArray, List.set_cons_zero, List.set_cons_succ, i64_w, i32_w]
                    rfl
                  refine done_ (by kernel_rfl) ?_
                  clear hHeld
                  have hall := (HF14.out.mono (S' := fun t => t = (750, 0, 0)) (fun _ h => h.elim)).trans HF16.out
                  have HLZ := Lib.hid (HL13.out.fr hall (fun t h => by subst h; right; decide))
                  have HOZ := Lib.hid (HO13.out.fr hall (fun t h => by subst h; right; decide))
                  have HCVZ := Lib.hid ((HCV13.out.fr hall (by have := HTT.out; rintro h; rw [h] at this; simp at this)).rd (cames_one _))
                  have HOWZ := Lib.hid ((HRC2.out.fr hall (by simp)).rd (cames_one _))
                  have HFLZ : Hid (Row T16 (750, 0, 0) 49 6 w16 (.slice A16 g'.fl.length cap16) g'.fl.length (posts g'.fl)) := Lib.hid (by
                    rw [HLEN.out, show posts g'.fl = posts (g.fl.eraseIdx i) ++ posts out from by rw [HFLE.out]; simp [posts]]
                    exact HR16.out)
                  have HFZ := Lib.hid (HF13.out.trans (hall.mono (fun t h => by subst h; exact .inr (.inr rfl))))
                  have hlz := HLEN.out
                  rw [← hlz]
                  clear hall hlz hi hz0 hz1 hz2
                  go_wp2_with (first
                  | (
                    go_at_call 27
                    refine (sameCame_ok rc HCVZ.out HOWZ.out HFZ.out.dom (by first | omega | simp)).mono ?_
                    rintro e w20 ⟨rfl, hF20⟩
                    have HL20 := Lib.hid (HLZ.out.frF hF20)
                    have HO20 := Lib.hid (HOZ.out.frF hF20)
                    have HFL20 := Lib.hid (HFLZ.out.fr hF20 (fun x => x))
                    have HF20 := Lib.hid (HFZ.out.trans (hF20.mono (fun _ h => h.elim)))
                    have hfl20 := HL20.out.fl (by omega)
                    clear hF20)
                  | (
                    go_at_call 42
                    refine (p_flight (303, 0, 0) HL20.out (by omega)).mono ?_
                    rintro e w21 ⟨v21, rfl, T21, hrow, hF21⟩
                    obtain ⟨A21, c21, rfl, _, _⟩ := hrow.form
                    have HR21 := Lib.hid (hrow.rd (posts_one' _))
                    have HFL21 := Lib.hid (HFL20.out.fr hF21 (fun x => x))
                    have HL21 := Lib.hid (HL20.out.frF hF21)
                    have HO21 := Lib.hid (HO20.out.frF hF21)
                    have HF21 := Lib.hid (HF20.out.trans (hF21.mono (fun _ h => h.elim)))
                    clear hrow hF21)
                  | (
                    go_at_call 22
                    refine (samePosts_ok g'.fl (HFL21.out.rd (posts_one' _)) HR21.out HF21.out.dom (by omega)).mono ?_
                    rintro e w22 ⟨rfl, hF22⟩
                    have HL22 := Lib.hid (HL21.out.frF hF22)
                    have HO22 := Lib.hid (HO21.out.frF hF22)
                    have HFL22 := Lib.hid (HFL21.out.fr hF22 (fun x => x))
                    have HF22 := Lib.hid (HF21.out.trans (hF22.mono (fun _ h => h.elim)))
                    clear hF22))
                  go_roundw
                  case rel => exact ⟨m + 1, by omega, by go_num, g', Qs', T21, A16, cap16, rfl, HL22, HO22, HQP13, HPL, HFL22, HF22⟩
                  case measure => simp [intOf]; omega
              · have hDO := p_do (⟨ok, on, cs⟩ : OpM) HL10.out (by omega) HX10.out
                by_cases hidle : (doG g ⟨ok, on, cs⟩).2.2.2 ≠ 0 ∨ ok < 0 ∨ 3 < ok
                · have hgg : (doG g ⟨ok, on, cs⟩).1 = g := by
                    rcases hidle with e | e
                    · exact doG_err e
                    · exact doG_idle e
                  obtain ⟨res, hres⟩ : ∃ r, r = doG g ⟨ok, on, cs⟩ := ⟨_, rfl⟩
                  rw [← hres] at hDO hidle hgg
                  obtain ⟨g', rn, rc, er⟩ := res
                  simp only at hgg hidle
                  subst hgg
                  have HDO := Lib.hid hDO
                  have hq : ((er != 0) = true ∧ (er == 0) = false ∧ (ok == 3) = true) ∨ ((er != 0) = true ∧ (er == 0) = false ∧ (ok == 3) = false) ∨ ((er != 0) = false ∧ (er == 0) = true ∧ decide (ok < 0) = true ∧ (ok == 3) = false) ∨ ((er != 0) = false ∧ (er == 0) = true ∧ decide (ok < 0) = false ∧ (ok == 3) = false ∧ decide (3 < ok) = true) := by
                    by_cases e : er = 0
                    · subst e
                      rcases hidle with h | h | h
                      · exact absurd rfl h
                      · exact .inr (.inr (.inl ⟨rfl, rfl, decide_eq_true h, by rw [beq_eq_false_iff_ne]; omega⟩))
                      · exact .inr (.inr (.inr ⟨rfl, rfl, decide_eq_false (by omega), by rw [beq_eq_false_iff_ne]; omega, decide_eq_true h⟩))
                    · by_cases e3 : ok = 3
                      · exact .inl ⟨by simpa using e, by simpa using e, by simpa using e3⟩
                      · exact .inr (.inl ⟨by simpa using e, by simpa using e, by simpa using e3⟩)
                  clear hDO hidle hres hk2
                  rcases hq with ⟨p1, p2, p3⟩ | ⟨p1, p2, p3⟩ | ⟨p1, p2, p3, p4⟩ | ⟨p1, p2, p3, p4, p5⟩
                  all_goals
                    go_wp2_with (
                      go_at_call 31
                      refine HDO.out.mono ?_
                      rintro e w11 ⟨cv, rfl, hD⟩
                      obtain ⟨T11, hL11, hcv, hF11⟩ := hD.did
                      obtain ⟨A11, c11, rfl, _, _⟩ := hcv.slice
                      have b0' : w11.cell? ⟨bo, 0, none⟩ = some (.int .i64 ok) := hF11.cell b0 (by simp only [HBO10.out]; omega)
                      have b1' : w11.cell? ⟨bo, 1, none⟩ = some (.int .i64 on) := hF11.cell b1 (by simp only [HBO10.out]; omega)
                      have b2' : w11.cell? ⟨bo, 2, none⟩ = some (.slice UA cs.length ucap) := hF11.cell b2 (by simp only [HBO10.out]; omega)
                      have HBO11 : Hid ((T11 bo).1 = 0) := Lib.hid (by rw [hF11.same bo (World.block_lt_of_cell? _ _ b0)]; exact HBO10.out)
                      have HL11 := Lib.hid hL11
                      have HCV11 := Lib.hid hcv
                      have HX11 := Lib.hid (HX10.out.fr hF11 (fun t h => by omega))
                      have HO11 := Lib.hid (HO10.out.fr hF11 (fun t h => by omega))
                      have HFL11 := Lib.hid (HFL10.out.fr hF11 (by simp))
                      have HRW11 := Lib.hid (HRW10.out.fr hF11 (by simp))
                      have HXR11 := Lib.hid (HXR.out.fr hF11 (by simp))
                      have HF11 := Lib.hid (HF10.out.trans (hF11.mono (fun t h => .inl h)))
                      clear hL11 hcv hF11 hD b0 b1 b2)
                    go_roundw
                    case rel => exact ⟨m + 1, by omega, by go_num, g', Qs, T11, A3, cap3, rfl, HL11, HO11, HQP, HGP, HFL11, HF11⟩
                    case measure => simp [intOf]; omega
                · simp only [not_or, ne_eq, Decidable.not_not, Int.not_lt] at hidle
                  obtain ⟨he, h0, h3⟩ := hidle
                  rcases (show ok = 0 ∨ ok = 1 ∨ ok = 2 ∨ ok = 3 by omega) with e | e | e | e
                  · subst e
                    rw [doG_zero] at he hDO
                    obtain ⟨hn0, hn1, hcb, c, hc0, hdo⟩ := doP_ok he
                    obtain ⟨q, rfl⟩ : ∃ q : Nat, on = q := ⟨on.toNat, by omega⟩
                    have hqn2 : q < n := by have := HGP.out; omega
                    obtain ⟨P, hP⟩ := HO10.out.ptr (show q < g.places by omega)
                    have hTK := fun (T : Nat → Tag) (W : World) (hO : OwnP T W Qs g) (hT : TagOk T W) (hr : RdX T W (.slice UA cs.length ucap) cs) => own_propose hO HL10.out.good (by have := HL10.out.np; omega) hT hP hr hcb hc0
                    rw [hdo] at hDO
                    obtain ⟨g', hg'⟩ : ∃ x, x = g.proposeG q cs c := ⟨_, rfl⟩
                    rw [← hg'] at hDO
                    simp only [← hg'] at hTK
                    have HDO := Lib.hid hDO
                    have HTK := Lib.hid hTK
                    have HPL : Hid (g'.places = n) := Lib.hid (by rw [hg']; exact HGP.out)
                    have HP := Lib.hid hP
                    have i7 : (0 : Int) ≤ (q : Int) := by omega
                    have i8 : (q : Int) < (n : Int) := by omega
                    clear he hn0 hn1 hcb hc0 hdo hTK hDO hP hg' hk2 h0 h3
                    obtain ⟨i0, hi, hz0, hz1, hz2⟩ := info_parts Try.info49
                    go_upto_region 32 with (
                      go_at_call 31
                      refine HDO.out.mono ?_
                      rintro e w11 ⟨cv, rfl, hD⟩
                      obtain ⟨T11, hL11, hcv, hF11⟩ := hD.did
                      obtain ⟨A11, c11, rfl, _, _⟩ := hcv.slice
                      have b0' : w11.cell? ⟨bo, 0, none⟩ = some (.int .i64 0) := hF11.cell b0 (by simp only [HBO10.out]; omega)
                      have b1' : w11.cell? ⟨bo, 1, none⟩ = some (.int .i64 (q : Int)) := hF11.cell b1 (by simp only [HBO10.out]; omega)
                      have b2' : w11.cell? ⟨bo, 2, none⟩ = some (.slice UA cs.length ucap) := hF11.cell b2 (by simp only [HBO10.out]; omega)
                      have HBO11 : Hid ((T11 bo).1 = 0) := Lib.hid (by rw [hF11.same bo (World.block_lt_of_cell? _ _ b0)]; exact HBO10.out)
                      have HL11 := Lib.hid hL11
                      have HCV11 := Lib.hid hcv
                      have HX11 := Lib.hid (HX10.out.fr hF11 (fun t h => by omega))
                      have HO11 := Lib.hid (HO10.out.fr hF11 (fun t h => by omega))
                      have HFL11 := Lib.hid (HFL10.out.fr hF11 (by simp))
                      have HRW11 := Lib.hid (HRW10.out.fr hF11 (by simp))
                      have HXR11 := Lib.hid (HXR.out.fr hF11 (by simp))
                      have HF11 := Lib.hid (HF10.out.trans (hF11.mono (fun t h => .inl h)))
                      clear hL11 hcv hF11 hD b0 b1 b2)
                    obtain ⟨pb, rfl, _, _, hpc⟩ := HRW11.out.cell rfl (j := q) (by rw [← HQP.out, List.length_map, HO11.out.len, HGP.out]; exact hqn2)
                    have pc : w11.cell? ⟨pb, q, none⟩ = some (.pointer (some ⟨P.ptr, 0, none⟩)) := by rw [hpc, ← HQP.out, List.getElem?_map, HP.out]; rfl
                    have hFd : Fr (fun _ => False) T11 T11 w11 w11.drew := (Fr.refl HF11.out.dom).dr
                    have HFd := Lib.hid hFd
                    have HSD := Lib.hid (And.intro (hFd.cellF pc) (And.intro (hFd.cellF b1') (hFd.cellF b2')))
                    clear hpc hFd pc b0' b1' b2'
                    refine start_ (n := 16) (S := fun w' => w'.cell? ⟨pb, q, none⟩ = some (.pointer (some ⟨P.ptr, 0, none⟩)) ∧ w'.cell? ⟨bo, 1, none⟩ = some (.int .i64 (q : Int)) ∧ w'.cell? ⟨bo, 2, none⟩ = some (.slice UA cs.length ucap)) (ds := [8]) #[false, false, false, false, false, false, false, false, false, false, false, false, false, false, false, false] (by kernel_rfl) rfl rfl ⟨HSD.out.1, HSD.out.2.1, HSD.out.2.2⟩ (fun hHeld => ?_)
                    refine pure_ (i := 0) (N := some 137) (v := ?_) (a' := ?_) #[true, false, false, false, false, false, false, false, false, false, false, false, false, false, false, false] rfl rfl (by kernel_rfl) (fun _ _ _ h => h) (Or.inl ⟨by rfl, ?_⟩) ?_ ?_
                    rotate_left
                    · intro w'
                      go_simp
                      with_reducible rfl
                    rotate_left
                    · simp only [Act.put, List.setIfInBounds_toArray, List.set_cons_zero, List.set_cons_succ, i64_w, i32_w]
                      rfl
                    refine pure_ (i := 1) (N := some 138) (v := ?_) (a' := ?_) #[true, true, false, false, false, false, false, false, false, false, false, false, false, false, false, false] rfl rfl (by kernel_rfl) (fun _ _ _ h => h) (Or.inl ⟨by rfl, ?_⟩) ?_ ?_
                    rotate_left
                    · intro w'
                      go_simp
                      with_reducible rfl
                    rotate_left
                    · simp only [Act.put, List.setIfInBounds_toArray, List.set_cons_zero, List.set_cons_succ, i64_w, i32_w]
                      rfl
                    refine pure_ (i := 5) (N := some 142) (v := ?_) (a' := ?_) #[true, true, false, false, false, true, false, false, false, false, false, false, false, false, false, false] rfl rfl (by kernel_rfl) (fun _ _ _ h => h) (Or.inl ⟨by rfl, ?_⟩) ?_ ?_
                    rotate_left
                    · intro w'
                      go_simp
                      with_reducible rfl
                    rotate_left
                    · simp only [Act.put, List.setIfInBounds_toArray, List.set_cons_zero, List.set_cons_succ, i64_w, i32_w]
                      rfl
                    refine pure_ (i := 6) (N := some 143) (v := ?_) (a' := ?_) #[true, true, false, false, false, true, true, false, false, false, false, false, false, false, false, false] rfl rfl (by kernel_rfl) (fun _ _ _ h => h) (Or.inl ⟨by rfl, ?_⟩) ?_ ?_
                    rotate_left
                    · intro w'
                      go_simp
                      with_reducible rfl
                    rotate_left
                    · simp only [Act.put, List.setIfInBounds_toArray, List.set_cons_zero, List.set_cons_succ, i64_w, i32_w]
                      rfl
                    refine take_ (i := 2) (N := some 139) (v := ?_) (a' := ?_) #[true, true, true, false, false, true, true, false, false, false, false, false, false, false, false, false] rfl rfl (by kernel_rfl) (fun _ _ _ h => h) (Or.inl ⟨by rfl, ?_⟩) hHeld ?_ ?_
                    rotate_left
                    · rintro w' ⟨s0, s1, s2⟩
                      go_simp
                      with_reducible rfl
                    rotate_left
                    · simp only [Act.put, List.setIfInBounds_toArray, List.set_cons_zero, List.set_cons_succ, i64_w, i32_w]
                      rfl
                    refine pure_ (i := 3) (N := some 140) (v := ?_) (a' := ?_) #[true, true, true, true, false, true, true, false, false, false, false, false, false, false, false, false] rfl rfl (by kernel_rfl) (fun _ _ _ h => h) (Or.inl ⟨by rfl, ?_⟩) ?_ ?_
                    rotate_left
                    · intro w'
                      go_simp
                      with_reducible rfl
                    rotate_left
                    · simp only [Act.put, List.setIfInBounds_toArray, List.set_cons_zero, List.set_cons_succ, i64_w, i32_w]
                      rfl
                    refine take_ (i := 4) (N := some 141) (v := ?_) (a' := ?_) #[true, true, true, true, true, true, true, false, false, false, false, false, false, false, false, false] rfl rfl (by kernel_rfl) (fun _ _ _ h => h) (Or.inl ⟨by rfl, ?_⟩) hHeld ?_ ?_
                    rotate_left
                    · rintro w' ⟨s0, s1, s2⟩
                      go_simp
                      with_reducible rfl
                    rotate_left
                    · simp only [Act.put, List.setIfInBounds_toArray, List.set_cons_zero, List.set_cons_succ, i64_w, i32_w]
                      rfl
                    refine take_ (i := 7) (N := some 144) (v := ?_) (a' := ?_) #[true, true, true, true, true, true, true, true, false, false, false, false, false, false, false, false] rfl rfl (by kernel_rfl) (fun _ _ _ h => h) (Or.inl ⟨by rfl, ?_⟩) hHeld ?_ ?_
                    rotate_left
                    · rintro w' ⟨s0, s1, s2⟩
                      go_simp
                      with_reducible rfl
                    rotate_left
                    · simp only [Act.put, List.setIfInBounds_toArray, List.set_cons_zero, List.set_cons_succ, i64_w, i32_w]
                      rfl
                    refine last_ (i := 8) (N := some 145) #[true, true, true, true, true, true, true, true, true, false, false, false, false, false, false, false] rfl rfl (by kernel_rfl) (by decide) (fun K hK => ?_)
                    refine goes_ Try.func20 (by kernel_rfl) rfl #[.pointer (some ⟨P.ptr, 0, none⟩), .int .i64 (g.np : Int), .slice UA cs.length ucap] (by rfl) rfl rfl (by simp only [List.map_toArray, List.map_cons, List.map_nil]; rfl) ?_
                    refine Calls.mono (HTK.out T11 w11.drew (HO11.out.frF HFd.out) HFd.out.dom (HX11.out.frF HFd.out)) ?_
                    rintro e w13 ⟨ov, cv2, rfl, T13, Qs', out, hro, hrc2, hfl', hout, hO13, hqp', hF13⟩
                    obtain ⟨OA, ocap, rfl, _, _⟩ := hro.form
                    obtain ⟨VA2, vcap2, rfl, _, _⟩ := hrc2.form
                    have HRO := Lib.hid (hro.rd (posts_one' _))
                    have HOWN := Lib.hid (hrc2.rd (fun u hu => by simp at hu))
                    have HFLE := Lib.hid hfl'
                    have HO13 := Lib.hid hO13
                    have HQP13 := Lib.hid (hqp'.trans HQP.out)
                    have HL13 := Lib.hid ((HL11.out.frF HFd.out).fr hF13 (fun t h => by omega))
                    have HFL13 := Lib.hid ((HFL11.out.fr HFd.out (fun x => x)).fr hF13 (by simp))
                    have HF13 := Lib.hid (HF11.out.trans ((HFd.out.mono (fun _ h => h.elim)).trans (hF13.mono (fun t h => .inr (.inl h)))))
                    clear hro hrc2 hfl' hO13 hqp' hF13
                    refine ⟨_, rfl, ?_⟩
                    refine hK.out _ _ ?_
                    clear hK K
                    refine norm_ (a' := ?_) ?_ ?_
                    rotate_left
                    · show Act.put _ (some 145) _ = _
                      simp only [Act.put, List.setIfInBounds_toArray, List.set_cons_zero, List.set_cons_succ, i64_w, i32_w]
                      rfl
                    refine pure_ (i := 9) (N := some 136) (v := ?_) (a' := ?_) #[true, true, true, true, true, true, true, true, true, true, false, false, false, false, false, false] rfl rfl (by kernel_rfl) (fun _ _ _ h => h) (Or.inl ⟨by rfl, ?_⟩) ?_ ?_
                    rotate_left
                    · intro w'
                      go_simp
                      with_reducible rfl
                    rotate_left
                    · simp only [Act.put, List.setIfInBounds_toArray, List.set_cons_zero, List.set_cons_succ, i64_w, i32_w]
                      rfl
                    refine pure_ (i := 10) (N := some 146) (v := ?_) (a' := ?_) #[true, true, true, true, true, true, true, true, true, true, true, false, false, false, false, false] rfl rfl (by kernel_rfl) (fun _ _ _ h => h) (Or.inl ⟨by rfl, ?_⟩) ?_ ?_
                    rotate_left
                    · intro w'
                      go_simp
                      with_reducible rfl
                    rotate_left
                    · simp only [Act.put, List.setIfInBounds_toArray, List.set_cons_zero, List.set_cons_succ, i64_w, i32_w]
                      rfl
                    refine pure_ (i := 11) (N := some 147) (v := ?_) (a' := ?_) #[true, true, true, true, true, true, true, true, true, true, true, true, false, false, false, false] rfl rfl (by kernel_rfl) (fun _ _ _ h => h) (Or.inl ⟨by rfl, ?_⟩) ?_ ?_
                    rotate_left
                    · intro w'
                      go_simp
                      with_reducible rfl
                    rotate_left
                    · simp only [Act.put, List.setIfInBounds_toArray, List.set_cons_zero, List.set_cons_succ, i64_w, i32_w]
                      rfl
                    refine pure_ (i := 12) (N := some 148) (v := ?_) (a' := ?_) #[true, true, true, true, true, true, true, true, true, true, true, true, true, false, false, false] rfl rfl (by kernel_rfl) (fun _ _ _ h => h) (Or.inl ⟨by rfl, ?_⟩) ?_ ?_
                    rotate_left
                    · intro w'
                      go_simp
                      with_reducible rfl
                    rotate_left
                    · simp only [Act.put, List.setIfInBounds_toArray, List.set_cons_zero, List.set_cons_succ, i64_w, i32_w]
                      rfl
                    refine pure_ (i := 13) (N := some 19) (v := ?_) (a' := ?_) #[true, true, true, true, true, true, true, true, true, true, true, true, true, true, false, false] rfl rfl (by kernel_rfl) (fun _ _ _ h => h) (Or.inl ⟨by rfl, ?_⟩) ?_ ?_
                    rotate_left
                    · intro w'
                      go_simp
                      with_reducible rfl
                    rotate_left
                    · simp only [Act.put, List.setIfInBounds_toArray, List.set_cons_zero, List.set_cons_succ, i64_w, i32_w]
                      rfl
                    refine pure_ (i := 14) (N := some 20) (v := ?_) (a' := ?_) #[true, true, true, true, true, true, true, true, true, true, true, true, true, true, true, false] rfl rfl (by kernel_rfl) (fun _ _ _ h => h) (Or.inl ⟨by rfl, ?_⟩) ?_ ?_
                    rotate_left
                    · intro w'
                      go_simp
                      with_reducible rfl
                    rotate_left
                    · simp only [Act.put, List.setIfInBounds_toArray, List.set_cons_zero, List.set_cons_succ, i64_w, i32_w]
                      rfl
                    refine pure_ (i := 15) (N := some 21) (v := ?_) (a' := ?_) #[true, true, true, true, true, true, true, true, true, true, true, true, true, true, true, true] rfl rfl (by kernel_rfl) (fun _ _ _ h => h) (Or.inl ⟨by rfl, ?_⟩) ?_ ?_
                    rotate_left
                    · intro w'
                      go_simp
                      with_reducible rfl
                    rotate_left
                    · simp only [Act.put, List.setIfInBounds_toArray, List.set_cons_zero, List.set_cons_succ, i64_w, i32_w]
                      rfl
                    refine done_ (by kernel_rfl) ?_
                    clear hHeld
                    have HLEN : Hid (g'.fl.length = g.fl.length + out.length) := Lib.hid (by rw [HFLE.out, List.length_append])
                    go_upto_region 52 with (
                      at_builtin
                      refine append_any_list rfl (.tmp 151) (.tmp 152) 24 rfl (by rfl) (by rfl) HFL13.out HF13.out.dom Try.underlying24 hi hz0 hz1 hz2 rfl (by decide) HRO.out (by unfold maxLen; omega) (by omega) ?_
                      intro A16 cap16 w16 T16 hrow hfr
                      have HR16 := Lib.hid hrow
                      have HF16 := Lib.hid hfr
                      clear hrow hfr)
                    have hall := HF16.out
                    have HLZ := Lib.hid (HL13.out.fr hall (fun t h => by subst h; right; decide))
                    have HOZ := Lib.hid (HO13.out.fr hall (fun t h => by subst h; right; decide))
                    have HCVZ : Hid (Rd 3 w16 (.slice A11 ([] : List Came).length c11) ([] : List Came).length (cames [])) := Lib.hid (rd_nil HCV11.out)
                    have HOWZ : Hid (Rd 3 w16 (.slice VA2 0 vcap2) ([] : List Came).length (cames [])) := Lib.hid (rd_nil HOWN.out)
                    have HFLZ : Hid (Row T16 (750, 0, 0) 49 6 w16 (.slice A16 g'.fl.length cap16) g'.fl.length (posts g'.fl)) := Lib.hid (by
                      rw [HLEN.out, show posts g'.fl = posts g.fl ++ posts out from by rw [HFLE.out]; simp [posts]]
                      exact HR16.out)
                    have HFZ := Lib.hid (HF13.out.trans (hall.mono (fun t h => by subst h; exact .inr (.inr rfl))))
                    rw [← HLEN.out]
                    clear hall hi hz0 hz1 hz2
                    go_wp2_with (first
                    | (
                      go_at_call 27
                      refine (sameCame_ok [] HCVZ.out HOWZ.out HFZ.out.dom (by first | omega | simp)).mono ?_
                      rintro e w20 ⟨rfl, hF20⟩
                      have HL20 := Lib.hid (HLZ.out.frF hF20)
                      have HO20 := Lib.hid (HOZ.out.frF hF20)
                      have HFL20 := Lib.hid (HFLZ.out.fr hF20 (fun x => x))
                      have HF20 := Lib.hid (HFZ.out.trans (hF20.mono (fun _ h => h.elim)))
                      have hfl20 := HL20.out.fl (by omega)
                      clear hF20)
                    | (
                      go_at_call 42
                      refine (p_flight (303, 0, 0) HL20.out (by omega)).mono ?_
                      rintro e w21 ⟨v21, rfl, T21, hrow, hF21⟩
                      obtain ⟨A21, c21, rfl, _, _⟩ := hrow.form
                      have HR21 := Lib.hid (hrow.rd (posts_one' _))
                      have HFL21 := Lib.hid (HFL20.out.fr hF21 (fun x => x))
                      have HL21 := Lib.hid (HL20.out.frF hF21)
                      have HO21 := Lib.hid (HO20.out.frF hF21)
                      have HF21 := Lib.hid (HF20.out.trans (hF21.mono (fun _ h => h.elim)))
                      clear hrow hF21)
                    | (
                      go_at_call 22
                      refine (samePosts_ok g'.fl (HFL21.out.rd (posts_one' _)) HR21.out HF21.out.dom (by omega)).mono ?_
                      rintro e w22 ⟨rfl, hF22⟩
                      have HL22 := Lib.hid (HL21.out.frF hF22)
                      have HO22 := Lib.hid (HO21.out.frF hF22)
                      have HFL22 := Lib.hid (HFL21.out.fr hF22 (fun x => x))
                      have HF22 := Lib.hid (HF21.out.trans (hF22.mono (fun _ h => h.elim)))
                      clear hF22))
                    go_roundw
                    case rel => exact ⟨m + 1, by omega, by go_num, g', Qs', T21, A16, cap16, rfl, HL22, HO22, HQP13, HPL, HFL22, HF22⟩
                    case measure => simp [intOf]; omega
                  · subst e
                    rw [doG_one] at he hDO
                    obtain ⟨i, rfl, hip, hst, hdo⟩ := doD_at he
                    obtain ⟨q, hq, hqn⟩ := HO10.out.homeq hip
                    obtain ⟨P, hP⟩ := HO10.out.ptr hqn
                    have hqn2 : q < n := by rw [← HGP.out]; exact hqn
                    have hTK := fun (T : Nat → Tag) (W : World) (hO : OwnP T W Qs g) (hT : TagOk T W) => own_drop hO HL10.out.good hT hP hip hst hq
                    have hFD := fun (T : Nat → Tag) (W : World) (hO : OwnP T W Qs g) (hr : Row T (760, 0, 0) 27 1 W (.slice A2 Qs.length cap2) Qs.length (Qs.map placePtr)) (c1 : W.cell? ⟨bo, 1, none⟩ = some (.int .i64 (i : Int))) => own_find hO hr c1 hip hq
                    rw [HO10.out.len, HGP.out, HQP.out] at hFD
                    rw [hdo] at hDO
                    obtain ⟨g', hg'⟩ : ∃ x, x = g.dropG i := ⟨_, rfl⟩
                    rw [← hg'] at hDO
                    simp only [← hg'] at hTK
                    have HDO := Lib.hid hDO
                    have HTK := Lib.hid hTK
                    have HFD := Lib.hid hFD
                    have HPL : Hid (g'.places = n) := Lib.hid (by rw [hg']; exact HGP.out)
                    have HP := Lib.hid hP
                    have i7 : (0 : Int) ≤ (q : Int) := by omega
                    have i8 : (q : Int) < (n : Int) := by omega
                    have j1 : decide ((q : Int) < 0) = false := decide_eq_false (by omega)
                    clear he hip hst hqn hq hdo hTK hFD hDO hP hg' hk2 h0 h3
                    obtain ⟨i0, hi, hz0, hz1, hz2⟩ := info_parts Try.info49
                    go_upto_region 40 with (first
                    | (
                      go_at_call 31
                      refine HDO.out.mono ?_
                      rintro e w11 ⟨cv, rfl, hD⟩
                      obtain ⟨T11, hL11, hcv, hF11⟩ := hD.did
                      obtain ⟨A11, c11, rfl, _, _⟩ := hcv.slice
                      have b0' : w11.cell? ⟨bo, 0, none⟩ = some (.int .i64 1) := hF11.cell b0 (by simp only [HBO10.out]; omega)
                      have b1' : w11.cell? ⟨bo, 1, none⟩ = some (.int .i64 (i : Int)) := hF11.cell b1 (by simp only [HBO10.out]; omega)
                      have b2' : w11.cell? ⟨bo, 2, none⟩ = some (.slice UA cs.length ucap) := hF11.cell b2 (by simp only [HBO10.out]; omega)
                      have HBO11 : Hid ((T11 bo).1 = 0) := Lib.hid (by rw [hF11.same bo (World.block_lt_of_cell? _ _ b0)]; exact HBO10.out)
                      have HL11 := Lib.hid hL11
                      have HCV11 := Lib.hid hcv
                      have HX11 := Lib.hid (HX10.out.fr hF11 (fun t h => by omega))
                      have HO11 := Lib.hid (HO10.out.fr hF11 (fun t h => by omega))
                      have HFL11 := Lib.hid (HFL10.out.fr hF11 (by simp))
                      have HRW11 := Lib.hid (HRW10.out.fr hF11 (by simp))
                      have HXR11 := Lib.hid (HXR.out.fr hF11 (by simp))
                      have HF11 := Lib.hid (HF10.out.trans (hF11.mono (fun t h => .inl h)))
                      clear hL11 hcv hF11 hD b0 b1 b2
                      have HFX := Lib.hid (HFD.out T11 w11 HO11.out HRW11.out b1'))
                    | (
                      go_at_call 43
                      refine Calls.mono HFX.out ?_
                      rintro e w' ⟨rfl, hw⟩
                      replace hw := hw.symm
                      subst hw))
                    obtain ⟨pb, rfl, _, _, hpc⟩ := HRW11.out.cell rfl (j := q) (by rw [← HQP.out, List.length_map, HO11.out.len, HGP.out]; exact hqn2)
                    have pc : w11.cell? ⟨pb, q, none⟩ = some (.pointer (some ⟨P.ptr, 0, none⟩)) := by rw [hpc, ← HQP.out, List.getElem?_map, HP.out]; rfl
                    have hFd : Fr (fun _ => False) T11 T11 w11 w11.drew := (Fr.refl HF11.out.dom).dr
                    have HFd := Lib.hid hFd
                    have HSD := Lib.hid (And.intro (hFd.cellF pc) (hFd.cellF b1'))
                    clear hpc hFd pc b0' b1' b2'
                    refine start_ (n := 12) (S := fun w' => w'.cell? ⟨pb, q, none⟩ = some (.pointer (some ⟨P.ptr, 0, none⟩)) ∧ w'.cell? ⟨bo, 1, none⟩ = some (.int .i64 (i : Int))) (ds := [6]) #[false, false, false, false, false, false, false, false, false, false, false, false] (by kernel_rfl) rfl rfl ⟨HSD.out.1, HSD.out.2⟩ (fun hHeld => ?_)
                    refine pure_ (i := 0) (N := some 163) (v := ?_) (a' := ?_) #[true, false, false, false, false, false, false, false, false, false, false, false] rfl rfl (by kernel_rfl) (fun _ _ _ h => h) (Or.inl ⟨by rfl, ?_⟩) ?_ ?_
                    rotate_left
                    · intro w'
                      go_simp
                      with_reducible rfl
                    rotate_left
                    · simp only [Act.put, List.setIfInBounds_toArray, List.set_cons_zero, List.set_cons_succ, i64_w, i32_w]
                      rfl
                    refine pure_ (i := 1) (N := some 164) (v := ?_) (a' := ?_) #[true, true, false, false, false, false, false, false, false, false, false, false] rfl rfl (by kernel_rfl) (fun _ _ _ h => h) (Or.inl ⟨by rfl, ?_⟩) ?_ ?_
                    rotate_left
                    · intro w'
                      go_simp
                      with_reducible rfl
                    rotate_left
                    · simp only [Act.put, List.setIfInBounds_toArray, List.set_cons_zero, List.set_cons_succ, i64_w, i32_w]
                      rfl
                    refine pure_ (i := 2) (N := some 165) (v := ?_) (a' := ?_) #[true, true, true, false, false, false, false, false, false, false, false, false] rfl rfl (by kernel_rfl) (fun _ _ _ h => h) (Or.inl ⟨by rfl, ?_⟩) ?_ ?_
                    rotate_left
                    · intro w'
                      go_simp
                      with_reducible rfl
                    rotate_left
                    · simp only [Act.put, List.setIfInBounds_toArray, List.set_cons_zero, List.set_cons_succ, i64_w, i32_w]
                      rfl
                    refine pure_ (i := 4) (N := some 167) (v := ?_) (a' := ?_) #[true, true, true, false, true, false, false, false, false, false, false, false] rfl rfl (by kernel_rfl) (fun _ _ _ h => h) (Or.inl ⟨by rfl, ?_⟩) ?_ ?_
                    rotate_left
                    · intro w'
                      go_simp
                      with_reducible rfl
                    rotate_left
                    · simp only [Act.put, List.setIfInBounds_toArray, List.set_cons_zero, List.set_cons_succ, i64_w, i32_w]
                      rfl
                    refine take_ (i := 3) (N := some 166) (v := ?_) (a' := ?_) #[true, true, true, true, true, false, false, false, false, false, false, false] rfl rfl (by kernel_rfl) (fun _ _ _ h => h) (Or.inl ⟨by rfl, ?_⟩) hHeld ?_ ?_
                    rotate_left
                    · rintro w' ⟨s0, s1⟩
                      go_simp
                      with_reducible rfl
                    rotate_left
                    · simp only [Act.put, List.setIfInBounds_toArray, List.set_cons_zero, List.set_cons_succ, i64_w, i32_w]
                      rfl
                    refine take_ (i := 5) (N := some 168) (v := ?_) (a' := ?_) #[true, true, true, true, true, true, false, false, false, false, false, false] rfl rfl (by kernel_rfl) (fun _ _ _ h => h) (Or.inl ⟨by rfl, ?_⟩) hHeld ?_ ?_
                    rotate_left
                    · rintro w' ⟨s0, s1⟩
                      go_simp
                      with_reducible rfl
                    rotate_left
                    · simp only [Act.put, List.setIfInBounds_toArray, List.set_cons_zero, List.set_cons_succ, i64_w, i32_w]
                      rfl
                    refine last_ (i := 6) (N := some 169) #[true, true, true, true, true, true, true, false, false, false, false, false] rfl rfl (by kernel_rfl) (by decide) (fun K hK => ?_)
                    refine goes_ Try.func23 (by kernel_rfl) rfl #[.pointer (some ⟨P.ptr, 0, none⟩), .int .i64 (i : Int)] (by rfl) rfl rfl (by simp only [List.map_toArray, List.map_cons, List.map_nil]; rfl) ?_
                    refine Calls.mono (HTK.out T11 w11.drew (HO11.out.frF HFd.out) HFd.out.dom) ?_
                    rintro e w13 ⟨ov, rfl, T13, Qs', out, hro, hfl', hout, hO13, hqp', hF13⟩
                    obtain ⟨OA, ocap, rfl, _, _⟩ := hro.form
                    have HRO := Lib.hid (hro.rd (posts_one' _))
                    have HFLE := Lib.hid hfl'
                    have HO13 := Lib.hid hO13
                    have HQP13 := Lib.hid (hqp'.trans HQP.out)
                    have HL13 := Lib.hid ((HL11.out.frF HFd.out).fr hF13 (fun t h => by omega))
                    have HFL13 := Lib.hid ((HFL11.out.fr HFd.out (fun x => x)).fr hF13 (by simp))
                    have HF13 := Lib.hid (HF11.out.trans ((HFd.out.mono (fun _ h => h.elim)).trans (hF13.mono (fun t h => .inr (.inl h)))))
                    clear hro hfl' hO13 hqp' hF13
                    refine ⟨_, rfl, ?_⟩
                    refine hK.out _ _ ?_
                    clear hK K
                    refine norm_ (a' := ?_) ?_ ?_
                    rotate_left
                    · show Act.put _ (some 169) _ = _
                      simp only [Act.put, List.setIfInBounds_toArray, List.set_cons_zero, List.set_cons_succ, i64_w, i32_w]
                      rfl
                    refine pure_ (i := 7) (N := some 162) (v := ?_) (a' := ?_) #[true, true, true, true, true, true, true, true, false, false, false, false] rfl rfl (by kernel_rfl) (fun _ _ _ h => h) (Or.inl ⟨by rfl, ?_⟩) ?_ ?_
                    rotate_left
                    · intro w'
                      go_simp
                      with_reducible rfl
                    rotate_left
                    · simp only [Act.put, List.setIfInBounds_toArray, List.set_cons_zero, List.set_cons_succ, i64_w, i32_w]
                      rfl
                    refine pure_ (i := 8) (N := some 170) (v := ?_) (a' := ?_) #[true, true, true, true, true, true, true, true, true, false, false, false] rfl rfl (by kernel_rfl) (fun _ _ _ h => h) (Or.inl ⟨by rfl, ?_⟩) ?_ ?_
                    rotate_left
                    · intro w'
                      go_simp
                      with_reducible rfl
                    rotate_left
                    · simp only [Act.put, List.setIfInBounds_toArray, List.set_cons_zero, List.set_cons_succ, i64_w, i32_w]
                      rfl
                    refine pure_ (i := 9) (N := some 171) (v := ?_) (a' := ?_) #[true, true, true, true, true, true, true, true, true, true, false, false] rfl rfl (by kernel_rfl) (fun _ _ _ h => h) (Or.inl ⟨by rfl, ?_⟩) ?_ ?_
                    rotate_left
                    · intro w'
                      go_simp
                      with_reducible rfl
                    rotate_left
                    · simp only [Act.put, List.setIfInBounds_toArray, List.set_cons_zero, List.set_cons_succ, i64_w, i32_w]
                      rfl
                    refine pure_ (i := 10) (N := some 23) (v := ?_) (a' := ?_) #[true, true, true, true, true, true, true, true, true, true, true, false] rfl rfl (by kernel_rfl) (fun _ _ _ h => h) (Or.inl ⟨by rfl, ?_⟩) ?_ ?_
                    rotate_left
                    · intro w'
                      go_simp
                      with_reducible rfl
                    rotate_left
                    · simp only [Act.put, List.setIfInBounds_toArray, List.set_cons_zero, List.set_cons_succ, i64_w, i32_w]
                      rfl
                    refine pure_ (i := 11) (N := some 24) (v := ?_) (a' := ?_) #[true, true, true, true, true, true, true, true, true, true, true, true] rfl rfl (by kernel_rfl) (fun _ _ _ h => h) (Or.inl ⟨by rfl, ?_⟩) ?_ ?_
                    rotate_left
                    · intro w'
                      go_simp
                      with_reducible rfl
                    rotate_left
                    · simp only [Act.put, List.setIfInBounds_toArray, List.set_cons_zero, List.set_cons_succ, i64_w, i32_w]
                      rfl
                    refine done_ (by kernel_rfl) ?_
                    clear hHeld
                    have HLEN : Hid (g'.fl.length = g.fl.length + out.length) := Lib.hid (by rw [HFLE.out, List.length_append])
                    go_upto_region 52 with (
                      at_builtin
                      refine append_any_list rfl (.tmp 174) (.tmp 175) 24 rfl (by rfl) (by rfl) HFL13.out HF13.out.dom Try.underlying24 hi hz0 hz1 hz2 rfl (by decide) HRO.out (by unfold maxLen; omega) (by omega) ?_
                      intro A16 cap16 w16 T16 hrow hfr
                      have HR16 := Lib.hid hrow
                      have HF16 := Lib.hid hfr
                      clear hrow hfr)
                    have hall := HF16.out
                    have HLZ := Lib.hid (HL13.out.fr hall (fun t h => by subst h; right; decide))
                    have HOZ := Lib.hid (HO13.out.fr hall (fun t h => by subst h; right; decide))
                    have HCVZ : Hid (Rd 3 w16 (.slice A11 ([] : List Came).length c11) ([] : List Came).length (cames [])) := Lib.hid (rd_nil HCV11.out)
                    have HOWZ : Hid (Rd 3 w16 (.slice none 0 0) ([] : List Came).length (cames [])) := Lib.hid ⟨rfl, by simp [cames], .inl ⟨rfl, rfl⟩⟩
                    have HFLZ : Hid (Row T16 (750, 0, 0) 49 6 w16 (.slice A16 g'.fl.length cap16) g'.fl.length (posts g'.fl)) := Lib.hid (by
                      rw [HLEN.out, show posts g'.fl = posts g.fl ++ posts out from by rw [HFLE.out]; simp [posts]]
                      exact HR16.out)
                    have HFZ := Lib.hid (HF13.out.trans (hall.mono (fun t h => by subst h; exact .inr (.inr rfl))))
                    rw [← HLEN.out]
                    clear hall hi hz0 hz1 hz2
                    go_wp2_with (first
                    | (
                      go_at_call 27
                      refine (sameCame_ok [] HCVZ.out HOWZ.out HFZ.out.dom (by first | omega | simp)).mono ?_
                      rintro e w20 ⟨rfl, hF20⟩
                      have HL20 := Lib.hid (HLZ.out.frF hF20)
                      have HO20 := Lib.hid (HOZ.out.frF hF20)
                      have HFL20 := Lib.hid (HFLZ.out.fr hF20 (fun x => x))
                      have HF20 := Lib.hid (HFZ.out.trans (hF20.mono (fun _ h => h.elim)))
                      have hfl20 := HL20.out.fl (by omega)
                      clear hF20)
                    | (
                      go_at_call 42
                      refine (p_flight (303, 0, 0) HL20.out (by omega)).mono ?_
                      rintro e w21 ⟨v21, rfl, T21, hrow, hF21⟩
                      obtain ⟨A21, c21, rfl, _, _⟩ := hrow.form
                      have HR21 := Lib.hid (hrow.rd (posts_one' _))
                      have HFL21 := Lib.hid (HFL20.out.fr hF21 (fun x => x))
                      have HL21 := Lib.hid (HL20.out.frF hF21)
                      have HO21 := Lib.hid (HO20.out.frF hF21)
                      have HF21 := Lib.hid (HF20.out.trans (hF21.mono (fun _ h => h.elim)))
                      clear hrow hF21)
                    | (
                      go_at_call 22
                      refine (samePosts_ok g'.fl (HFL21.out.rd (posts_one' _)) HR21.out HF21.out.dom (by omega)).mono ?_
                      rintro e w22 ⟨rfl, hF22⟩
                      have HL22 := Lib.hid (HL21.out.frF hF22)
                      have HO22 := Lib.hid (HO21.out.frF hF22)
                      have HFL22 := Lib.hid (HFL21.out.fr hF22 (fun x => x))
                      have HF22 := Lib.hid (HF21.out.trans (hF22.mono (fun _ h => h.elim)))
                      clear hF22))
                    go_roundw
                    case rel => exact ⟨m + 1, by omega, by go_num, g', Qs', T21, A16, cap16, rfl, HL22, HO22, HQP13, HPL, HFL22, HF22⟩
                    case measure => simp [intOf]; omega
                  · exact absurd ⟨e, by subst e; exact he⟩ hk2
                  · subst e
                    rw [doG_three] at he hDO
                    obtain ⟨i, mm, rfl, hmm, hdo⟩ := doB_at he
                    have hil := (List.getElem?_eq_some_iff.1 hmm).1
                    obtain ⟨k0, k1, kd, k3, k4, k5⟩ := mm
                    rw [hdo] at hDO
                    obtain ⟨g', hg'⟩ : ∃ x : G, x = { g with fl := g.fl ++ [⟨k0, k1, kd, k3, k4, k5⟩] } := ⟨_, rfl⟩
                    rw [← hg'] at hDO
                    have HDO := Lib.hid hDO
                    have HMM := Lib.hid hmm
                    have HGE := Lib.hid hg'
                    have i7 : (0 : Int) ≤ (i : Int) := by omega
                    have i8 : (i : Int) < (g.fl.length : Int) := by omega
                    clear he hmm hdo hDO hg' hk2 h0 h3
                    obtain ⟨i0, hi, hz0, hz1, hz2⟩ := info_parts Try.info49
                    go_wp2_with (first
                    | (
                      go_at_call 31
                      refine HDO.out.mono ?_
                      rintro e w11 ⟨cv, rfl, hD⟩
                      obtain ⟨T11, hL11, hcv, hF11⟩ := hD.did
                      obtain ⟨A11, c11, rfl, _, _⟩ := hcv.slice
                      have b0' : w11.cell? ⟨bo, 0, none⟩ = some (.int .i64 3) := hF11.cell b0 (by simp only [HBO10.out]; omega)
                      have b1' : w11.cell? ⟨bo, 1, none⟩ = some (.int .i64 (i : Int)) := hF11.cell b1 (by simp only [HBO10.out]; omega)
                      have b2' : w11.cell? ⟨bo, 2, none⟩ = some (.slice UA cs.length ucap) := hF11.cell b2 (by simp only [HBO10.out]; omega)
                      have HBO11 : Hid ((T11 bo).1 = 0) := Lib.hid (by rw [hF11.same bo (World.block_lt_of_cell? _ _ b0)]; exact HBO10.out)
                      have HL11 := Lib.hid hL11
                      have HCV11 := Lib.hid hcv
                      have HX11 := Lib.hid (HX10.out.fr hF11 (fun t h => by omega))
                      have HO11 := Lib.hid (HO10.out.fr hF11 (fun t h => by omega))
                      have HFL11 := Lib.hid (HFL10.out.fr hF11 (by simp))
                      have HRW11 := Lib.hid (HRW10.out.fr hF11 (by simp))
                      have HXR11 := Lib.hid (HXR.out.fr hF11 (by simp))
                      have HF11 := Lib.hid (HF10.out.trans (hF11.mono (fun t h => .inl h)))
                      clear hL11 hcv hF11 hD b0 b1 b2
                      obtain ⟨xb, rfl, _, _, hce⟩ := Row.elem (enc := Post.cells) HXR11.out (fun _ => rfl) (by decide) HMM.out
                      have c0 : w11.cell? ⟨xb, i * 6, none⟩ = some (.int .i64 k0) := hce 0 _ rfl
                      have c1 : w11.cell? ⟨xb, i * 6 + 1, none⟩ = some (.int .i64 k1) := hce 1 _ rfl
                      have c2 : w11.cell? ⟨xb, i * 6 + 2, none⟩ = some (.int .i64 kd) := hce 2 _ rfl
                      have c3 : w11.cell? ⟨xb, i * 6 + 3, none⟩ = some (.int .i64 k3) := hce 3 _ rfl
                      have c4 : w11.cell? ⟨xb, i * 6 + 4, none⟩ = some (.int .i64 k4) := hce 4 _ rfl
                      have c5 : w11.cell? ⟨xb, i * 6 + 5, none⟩ = some (.int .i64 k5) := hce 5 _ rfl
                      have hok11 := HF11.out.dom
                      clear hce)
                    | (
                      at_builtin
                      refine append_list rfl (.tmp 124) (.tmp 130) 24 rfl (by rfl) (by rfl) (HFL11.out.alloc _) (hok11.alloc _) Try.underlying24 hi hz0 hz1 hz2 rfl (by decide) (Post.cells ⟨k0, k1, kd, k3, k4, k5⟩) rfl (news_at (Go.Ng.heap_alloc_at _ _)) (by simp [Post.cells, Value.oneCell']) (by decide) (by unfold maxLen; omega) (by omega) ?_
                      intro g6 cap6 w16 T16 hrow hfr
                      have HR16 := Lib.hid hrow
                      have HF16 := Lib.hid ((Fr.alloc (S := fun t => t = (750, 0, 0)) hok11 (.cells #[.int .i64 k0, .int .i64 k1, .int .i64 kd, .int .i64 k3, .int .i64 k4, .int .i64 k5] 49)).trans hfr)
                      clear hrow hfr))
                    go_roundw
                    case rel =>
                      refine ⟨m + 1, by omega, by go_num, g', Qs, T16, some ⟨g6, 0, none⟩, cap6, by rw [HGE.out, List.length_append]; rfl, Lib.hid (HL11.out.fr HF16.out (fun t h => by subst h; right; decide)), Lib.hid (by rw [HGE.out]; exact (HO11.out.fr HF16.out (fun t h => by subst h; right; decide)).double _), HQP, Lib.hid (by rw [HGE.out]; exact HGP.out), Lib.hid ?_, Lib.hid (HF11.out.trans (HF16.out.mono (fun t h => by subst h; exact .inr (.inr rfl))))⟩
                      rw [HGE.out]
                      simp only [List.length_append, List.length_singleton]
                      rw [show posts (g.fl ++ [(⟨k0, k1, kd, k3, k4, k5⟩ : Post)]) = posts g.fl ++ Post.cells ⟨k0, k1, kd, k3, k4, k5⟩ from by simp [posts]]
                      exact HR16.out
                    case measure => simp [intOf]; omega
            · have hmm : m = l.length := by omega
              subst hmm
              go_wp2_with fail
              go_ret
              exact ⟨rfl, Tq, HF8.out.trans (HFq.out.mono (fun t h => by omega))⟩
end Go.Proofs.Ytclkokkppgchfaa

/- A list of numbers, handed over. -/
namespace Go.Proofs.Ytclkokkppgchfaa
open Go.ChangeShapes Go.WideShapes Go.ChangeAt Go.RowKit Go.Joins Go.Deep Go.Ng
set_option linter.unusedVariables false
section
variable {H : Type} {enc : TypeId × Value → H} {w : World} {base base0 : Nat} {spare : Nat → Bool} {held : Bool}
set_option maxRecDepth 100000 in
theorem open_ints_arg {v : Value} {d : DataW H} {p : List MemPlace} (hv : Value.okWide Try.prog w .any base0 22 v) (h : DataW.Trod enc Try.prog w base spare held 22 v d p) : ∃ l : List Int, Rd 1 w v l.length (ints l) ∧ Ext tag0 w v := by
  obtain ⟨a, len, cap, rfl⟩ := okWide_slice Try.underlying22 hv
  obtain ⟨n, hn⟩ := h
  refine open_intsRd hn (base0 := base0) ?_
  simpa only [Value.okWide, Try.underlying22] using hv
end
end Go.Proofs.Ytclkokkppgchfaa

/- A list of things to do, handed over; a number. -/
namespace Go.Proofs.Ytclkokkppgchfaa
open Go.ChangeShapes Go.WideShapes Go.ChangeAt Go.RowKit Go.Joins Go.Deep Go.Ng
set_option linter.unusedVariables false
section
variable {H : Type} {enc : TypeId × Value → H} {w : World} {base base0 : Nat} {spare : Nat → Bool} {held : Bool}
set_option maxRecDepth 100000 in
theorem open_ops_arg {v : Value} {d : DataW H} {p : List MemPlace} (hv : Value.okWide Try.prog w .any base0 23 v) (h : DataW.Trod enc Try.prog w base spare held 23 v d p) : ∃ l : List OpM, OpsRd tag0 w v l := by
  obtain ⟨a, len, cap, rfl⟩ := okWide_slice Try.underlying23 hv
  obtain ⟨n, hn⟩ := h
  refine open_ops hn (base0 := base0) ?_
  simpa only [Value.okWide, Try.underlying23] using hv
set_option maxRecDepth 100000 in
theorem open_int_arg {v : Value} {d : DataW H} {p : List MemPlace} (hv : Value.okWide Try.prog w .any base0 3 v) (h : DataW.Trod enc Try.prog w base spare held 3 v d p) : ∃ n : Int, v = .int .i64 n := by
  obtain ⟨n, h1, _⟩ := open_int Try.underlying3 hv h
  exact ⟨n, h1⟩
end
end Go.Proofs.Ytclkokkppgchfaa
