/- A part of the proof: texts of this session, joined. -/
import Derived.Test.YtclkokkppgchfaaPart8
import Derived.Test.YtclkokkppgchfaaPart10
import Derived.Test.YtclkokkppgchfaaPart5
import Derived.Deep.DeepCutAuto
import Derived.Sort.AtCall
import Derived.Test.YtclkokkppgchfaaPart6
/- Why a proposal is refused; what deliveries leave as it is. -/
namespace Go.Ng
set_option linter.unusedVariables false
section
variable {g : G}
theorem takeG_hist (m : Post) (j : Int) : ((g.takeG m).1.items j).hist = (g.items j).hist ∨ ∃ q, (g.items j).hold = some q ∧ ((g.takeG m).1.items j).hist = (g.items j).hist ++ [q] := by
  have hs : ∀ (a : Int) (x : It), x.hist = (g.items a).hist → ((g.setI a x).items j).hist = (g.items j).hist := fun a x hx => by
    by_cases e : j = a
    · subst e; simp [G.setI, hx]
    · simp [G.setI, e]
  unfold G.takeG
  split
  · left; unfold G.grantedG; split
    · split <;> rfl
    · rfl
  · split
    · left; unfold G.refusedG; split <;> rfl
    · split
      · left; unfold G.askedG; split
        · rfl
        · split
          · exact hs _ _ rfl
          · split <;> exact hs _ _ rfl
      · split
        · unfold G.committedG; split
          · rename_i h
            by_cases e : j = m.item
            · subst e; right; exact ⟨_, h, by simp [G.setI]⟩
            · left; simp [G.setI, e]
          · exact .inl rfl
        · left; unfold G.freedG; split
          · split <;> exact hs _ _ rfl
          · exact hs _ _ rfl
theorem takeG_dec (m : Post) : (g.takeG m).1.dec = g.dec ∨ (g.takeG m).1.dec = g.dec ++ [m.prop] := by
  unfold G.takeG
  split
  · unfold G.grantedG; split
    · split
      · exact .inl rfl
      · exact .inr rfl
    · exact .inl rfl
  · left; split
    · unfold G.refusedG; split <;> rfl
    · split
      · unfold G.askedG; split
        · rfl
        · split
          · rfl
          · split <;> rfl
      · split
        · unfold G.committedG; split <;> rfl
        · unfold G.freedG; split
          · split <;> rfl
          · rfl
/-- The state of a proposal changes only if it is open, to done or to refused. -/
theorem takeG_st (m : Post) (p : Int) : ((g.takeG m).1.props p).st = (g.props p).st ∨ ((g.props p).st = 1 ∧ p = m.prop ∧ g.at_ p m.item ∧ (((g.takeG m).1.props p).st = 2 ∨ m.kind = 3 ∧ ((g.takeG m).1.props p).st = 3)) := by
  unfold G.takeG
  split
  · unfold G.grantedG; split
    · rename_i h
      split
      · left; by_cases e : p = m.prop
        · subst e; simp [G.setP]
        · simp [G.setP, e]
      · by_cases e : p = m.prop
        · subst e; right; exact ⟨h.1, rfl, h, .inl (by simp [G.setP])⟩
        · left; simp [G.setP, e]
    · exact .inl rfl
  · split
    · rename_i hk
      unfold G.refusedG; split
      · rename_i h
        by_cases e : p = m.prop
        · subst e; right; exact ⟨h.1, rfl, h, .inr ⟨hk, by simp [G.setP]⟩⟩
        · left; simp [G.setP, e]
      · exact .inl rfl
    · left; split
      · unfold G.askedG; split
        · rfl
        · split
          · rfl
          · split <;> rfl
      · split
        · unfold G.committedG; split <;> rfl
        · unfold G.freedG; split
          · split <;> rfl
          · rfl
/-- When a refusal is sent. -/
theorem takeG_no {m x : Post} (h : x ∈ (g.takeG m).2.1) (hx : x.kind = 3) :
    (m.kind = 1 ∧ x.prop = m.prop ∧ x.item = m.item ∧ m.version ≠ (g.items m.item).ver ∧ m.prop ∉ (g.items m.item).thr) ∨
    (x.item = m.item ∧ (g.items m.item).hold = some m.prop ∧ x.prop ∈ (g.items m.item).queue ∧ ((g.takeG m).1.items m.item).hist = (g.items m.item).hist ++ [m.prop]) := by
  unfold G.takeG at h ⊢
  split at h
  · rename_i hk
    unfold G.grantedG at h
    split at h
    · split at h
      · rw [List.mem_singleton.1 h] at hx; simp [G.mAsk] at hx
      · simp only [List.mem_map] at h; obtain ⟨c, _, rfl⟩ := h; simp [G.mCommit] at hx
    · simp at h
  · split at h
    · unfold G.refusedG at h
      split at h
      · simp only [List.mem_map] at h; obtain ⟨c, _, rfl⟩ := h; simp [G.mFree] at hx
      · simp at h
    · split at h
      · rename_i hk
        unfold G.askedG at h
        split at h
        · simp at h
        · rename_i h0
          simp only [not_or] at h0
          split at h
          · rename_i hv
            rw [List.mem_singleton.1 h]
            exact .inl ⟨hk, rfl, rfl, hv, h0.1⟩
          · split at h
            · simp at h
            · rw [List.mem_singleton.1 h] at hx; simp [G.mGrant] at hx
      · split at h
        · rename_i h2 h3 h1 h4
          unfold G.committedG at h
          split at h
          · rename_i hh
            simp only [List.mem_map] at h
            obtain ⟨q, hq, rfl⟩ := h
            refine .inr ⟨rfl, hh, hq, ?_⟩
            rw [if_neg h2, if_neg h3, if_neg h1, if_pos h4]
            unfold G.committedG
            rw [if_pos hh]
            simp [G.setI]
          · simp at h
        · unfold G.freedG at h
          split at h
          · split at h
            · simp at h
            · rw [List.mem_singleton.1 h] at hx; simp [G.mGrant] at hx
          · simp at h

/-- R p j h: the item j, moved by those of h, gives ground to refuse p. -/
structure Why (g : G) (R : Int → Int → List Int → Prop) : Prop where
  msg : ∀ p j, g.has 3 p j → R p j (g.items j).hist
  st : ∀ p, (g.props p).st = 3 → ∃ c ∈ (g.props p).claims, R p c.item (g.items c.item).hist
theorem at_mem {p j : Int} (h : g.at_ p j) : ∃ c ∈ (g.props p).claims, c.item = j := by
  obtain ⟨_, h⟩ := h
  rw [Option.map_eq_some_iff] at h
  obtain ⟨c, hc, rfl⟩ := h
  exact ⟨c, List.mem_of_getElem? hc, rfl⟩
theorem Why.deliver {R : Int → Int → List Int → Prop} {i : Nat} {m : Post} (K : Why g R) (I : NGood g) (hi : g.fl[i]? = some m)
    (mono : ∀ p j h q, R p j h → R p j (h ++ [q]))
    (ask : ∀ p (c : Clm), c ∈ (g.props p).claims → c.version ≠ (g.items c.item).ver → p ∉ (g.items c.item).thr → R p c.item (g.items c.item).hist)
    (queue : ∀ p q j, p ∈ (g.items j).queue → (g.items j).hold = some q → R p j ((g.items j).hist ++ [q])) : Why (g.deliverG i m) R := by
  have lift : ∀ p j, R p j (g.items j).hist → R p j ((g.takeG m).1.items j).hist := fun p j h => by
    rcases takeG_hist (g := g) m j with e | ⟨q, _, e⟩
    · rw [e]; exact h
    · rw [e]; exact mono _ _ _ _ h
  have hcl := (takeG_same (g := g) m).2.2.2.2.2.2
  have hm := List.mem_of_getElem? hi
  refine ⟨?_, ?_⟩
  · rintro p j ⟨x, hx, h1, rfl, rfl⟩
    rcases List.mem_append.1 hx with hx | hx
    · exact lift _ _ (K.msg _ _ ⟨x, List.mem_of_mem_eraseIdx hx, h1, rfl, rfl⟩)
    · rcases takeG_no hx h1 with ⟨hk, h2, h3, h4, h5⟩ | ⟨h2, h3, h4, h5⟩
      · have := ask m.prop ⟨m.item, m.version⟩ ((I.route m hm).ask hk) h4 h5
        rw [h2, h3]
        exact lift _ _ this
      · show R x.prop x.item ((g.takeG m).1.items x.item).hist
        rw [h2, h5]
        exact queue _ _ _ h4 h3
  · intro p hp
    change ((g.takeG m).1.props p).st = 3 at hp
    rcases takeG_st (g := g) m p with e | ⟨h1, rfl, h3, h4⟩
    · rw [e] at hp
      obtain ⟨c, hc, hR⟩ := K.st p hp
      exact ⟨c, by rw [← hcl p] at hc; exact hc, lift _ _ hR⟩
    · rcases h4 with h4 | ⟨hk, _⟩
      · omega
      · obtain ⟨c, hc, hci⟩ := at_mem h3
        refine ⟨c, by rw [← hcl m.prop] at hc; exact hc, lift _ _ ?_⟩
        rw [hci]
        exact K.msg _ _ ⟨m, hm, hk, rfl, rfl⟩

/-- Proposals that claim the present versions, on a net that was calm. -/
structure Ahead (g0 g : G) : Prop where
  good : NGood g
  why : Why g fun p j h => p < g0.np ∨ (g0.items j).hist.length < h.length
  ver : ∀ p : Int, g0.np ≤ p → ∀ c ∈ (g.props p).claims, c.version = (g0.items c.item).hist.length
  hist : ∀ j, (g0.items j).hist.length ≤ (g.items j).hist.length
  dec : g0.dec <+: g.dec
  old : ∀ p : Int, p < g0.np → (g.props p).claims = (g0.props p).claims ∧ (g.props p).st = (g0.props p).st
  st4 : ∀ p : Int, g0.np ≤ p → (g.props p).st ≠ 4
  np : g0.np ≤ g.np
  n : g.n = g0.n
  places : g.places = g0.places
theorem claims_rng (I : NGood g) {p : Int} {c : Clm} (hc : c ∈ (g.props p).claims) : 0 ≤ p ∧ p < g.np ∧ 0 ≤ c.item ∧ c.item < g.n := by
  obtain ⟨i, hi⟩ := cl_of_mem hc
  exact I.inv.rng _ _ _ hi
theorem st_rng (I : NGood g) {p : Int} (h : (g.props p).st ≠ 0) : 0 ≤ p ∧ p < g.np := by
  cases hc : (g.props p).claims with
  | nil => exact absurd ((I.inv.zero p).2 hc) h
  | cons c t => have := claims_rng I (p := p) (c := c) (by simp [hc]); omega
theorem Ahead.init {g0 : G} (I : NGood g0) (S : Still g0.has) : Ahead g0 g0 := by
  refine ⟨I, ⟨fun p j h => absurd h (S _ _ _), fun p hp => ?_⟩, fun p hp c hc => ?_, fun _ => Nat.le_refl _, List.prefix_refl _, fun _ _ => ⟨rfl, rfl⟩, fun p hp h4 => ?_, Nat.le_refl _, rfl, rfl⟩
  · have := st_rng I (p := p) (by omega)
    cases hc : (g0.props p).claims with
    | nil => have := (I.inv.zero p).2 hc; omega
    | cons c t => exact ⟨c, by simp, .inl this.2⟩
  · have := claims_rng I hc; omega
  · have := st_rng I (p := p) (by omega); omega
theorem Ahead.deliver {g0 : G} (A : Ahead g0 g) (I0 : NGood g0) (S0 : Still g0.has) {i : Nat} {m : Post} (hi : g.fl[i]? = some m) : Ahead g0 (g.deliverG i m) := by
  obtain ⟨_, _, e1, e2, e3, _, hcl⟩ := takeG_same (g := g) m
  refine ⟨A.good.deliver hi, A.why.deliver A.good hi ?_ ?_ ?_, fun p hp c hc => A.ver p hp c (by rw [← hcl p]; exact hc), fun j => ?_, ?_, fun p hp => ⟨(hcl p).trans (A.old p hp).1, ?_⟩, fun p hp => ?_, by have := A.np; show g0.np ≤ (g.takeG m).1.np; omega, e1.trans A.n, e3.trans A.places⟩
  · intro p j h q hR
    rcases hR with hR | hR
    · exact .inl hR
    · right; rw [List.length_append]; omega
  · intro p c hc hv _
    by_cases hp : p < g0.np
    · exact .inl hp
    · right
      have h1 := A.ver p (by omega) c hc
      have h2 := A.good.inv.vh c.item
      have h3 := A.hist c.item
      omega
  · intro p q j _ _
    right
    have := A.hist j
    rw [List.length_append]; simp; omega
  · have := A.hist j
    rcases takeG_hist (g := g) m j with e | ⟨q, _, e⟩
    · show _ ≤ ((g.takeG m).1.items j).hist.length; rw [e]; exact this
    · show _ ≤ ((g.takeG m).1.items j).hist.length; rw [e, List.length_append]; omega
  · rcases takeG_dec (g := g) m with e | e
    · show _ <+: (g.takeG m).1.dec; rw [e]; exact A.dec
    · show _ <+: (g.takeG m).1.dec; rw [e]; exact A.dec.trans (List.prefix_append _ _)
  · show ((g.takeG m).1.props p).st = _
    rcases takeG_st (g := g) m p with e | ⟨h1, _⟩
    · rw [e]; exact (A.old p hp).2
    · rw [(A.old p hp).2] at h1
      exact absurd h1 (still_closed I0.inv S0 p)
  · show ((g.takeG m).1.props p).st ≠ 4
    rcases takeG_st (g := g) m p with e | ⟨h1, _, _, h4⟩
    · rw [e]; exact A.st4 p hp
    · rcases h4 with h4 | ⟨_, h4⟩ <;> omega
theorem Ahead.propose {g0 : G} (A : Ahead g0 g) {place : Int} {l : List Clm} {c : Clm} (hl : ClaimsOk g.n l) (hc : l[0]? = some c) (hv : ∀ c ∈ l, c.version = (g0.items c.item).hist.length) : Ahead g0 (g.proposeG place l c) := by
  have hp : ∀ p, p ≠ (g.np : Int) → (g.proposeG place l c).props p = g.props p := fun p e => by simp [G.proposeG, G.setP, e]
  have hq : (g.proposeG place l c).props g.np = ⟨l, 1, 0⟩ := by simp [G.proposeG, G.setP]
  have hnp := A.np
  refine ⟨A.good.propose hl hc, ⟨?_, ?_⟩, ?_, A.hist, A.dec, ?_, ?_, ?_, A.n, A.places⟩
  · rintro p j ⟨x, hx, h1, h2, h3⟩
    rcases List.mem_append.1 hx with hx | hx
    · exact A.why.msg p j ⟨x, hx, h1, h2, h3⟩
    · rw [List.mem_singleton.1 hx] at h1; simp at h1
  · intro p h3
    by_cases e : p = (g.np : Int)
    · subst e; rw [hq] at h3; simp at h3
    · rw [hp p e] at h3 ⊢; exact A.why.st p h3
  · intro p h0 d hd
    by_cases e : p = (g.np : Int)
    · subst e; rw [hq] at hd; exact hv d hd
    · rw [hp p e] at hd; exact A.ver p h0 d hd
  · intro p h0
    rw [hp p (by omega)]; exact A.old p h0
  · intro p h0
    by_cases e : p = (g.np : Int)
    · subst e; rw [hq]; simp
    · rw [hp p e]; exact A.st4 p h0
  · show g0.np ≤ g.np + 1; omega
/-- Whoever moved an item since is one of the new ones, and is done. -/
theorem Ahead.moved {g0 : G} (A : Ahead g0 g) (I0 : NGood g0) (S0 : Still g0.has) (S : Still g.has) {j : Int} (h : (g0.items j).hist.length < (g.items j).hist.length) :
    ∃ q : Int, g0.np ≤ q ∧ q < g.np ∧ (g.props q).st = 2 ∧ q ∈ g.dec ∧ q ∉ g0.dec := by
  obtain ⟨r, hr⟩ := A.dec
  have h1 := still_hist A.good.inv S j
  have h0 := still_hist I0.inv S0 j
  have hold : g0.dec.filter (g.claimsI j) = g0.dec.filter (g0.claimsI j) := by
    apply List.filter_congr
    intro q hq
    have := (moment I0.inv hq).2.1
    rw [G.claimsI, G.claimsI, (A.old q this).1]
  rw [← hr, List.filter_append, hold, h0] at h1
  have : r.filter (g.claimsI j) ≠ [] := by
    intro e
    rw [e, List.append_nil] at h1
    rw [h1] at h; omega
  obtain ⟨q, hq⟩ := List.exists_mem_of_ne_nil _ this
  have hqr := (List.mem_filter.1 hq).1
  have hqd : q ∈ g.dec := by rw [← hr]; exact List.mem_append.2 (.inr hqr)
  have hst := (A.good.inv.e1 q).1 hqd
  have hnd := A.good.inv.e0
  rw [← hr] at hnd
  have hno : q ∉ g0.dec := fun hq0 => (List.nodup_append.1 hnd).2.2 q hq0 q hqr rfl
  have hrng := st_rng A.good (p := q) (by omega)
  refine ⟨q, ?_, hrng.2, hst, hqd, hno⟩
  by_cases e : q < g0.np
  · exact absurd ((I0.inv.e1 q).2 (by rw [← (A.old q e).2]; exact hst)) hno
  · omega
theorem Ahead.some {g0 : G} (A : Ahead g0 g) (I0 : NGood g0) (S0 : Still g0.has) (S : Still g.has) (h : g0.np < g.np) : g0.dec.length < g.dec.length := by
  have hd := A.dec
  obtain ⟨q, hq, hq0⟩ : ∃ q, q ∈ g.dec ∧ q ∉ g0.dec := by
    have hf := A.good.inv.full g0.np (by omega) (by omega)
    rcases A.good.inv.st0 g0.np with e | e | e | e | e
    · exact absurd ((A.good.inv.zero _).1 e) hf
    · exact absurd e (still_closed A.good.inv S _)
    · refine ⟨g0.np, (A.good.inv.e1 _).2 e, fun h' => ?_⟩
      have := (moment I0.inv h').2.1; omega
    · obtain ⟨c, hc, hR⟩ := A.why.st _ e
      rcases hR with hR | hR
      · omega
      · obtain ⟨q, _, _, _, h1, h2⟩ := A.moved I0 S0 S hR
        exact ⟨q, h1, h2⟩
    · exact absurd e (A.st4 _ (by omega))
  obtain ⟨r, hr⟩ := hd
  rw [← hr, List.length_append]
  have : r ≠ [] := by
    rintro rfl
    rw [List.append_nil] at hr
    rw [← hr] at hq
    exact hq0 hq
  have := List.length_pos_iff.2 this
  omega
theorem Ahead.refused {g0 : G} (A : Ahead g0 g) {p : Int} (hp : g0.np ≤ p) (h : (g.props p).st = 3) : ∃ c ∈ (g.props p).claims, c.version ≠ (g.items c.item).ver := by
  obtain ⟨c, hc, hR⟩ := A.why.st p h
  refine ⟨c, hc, ?_⟩
  rw [A.ver p hp c hc, A.good.inv.vh]
  rcases hR with hR | hR <;> omega
theorem Ahead.one {g0 : G} (A : Ahead g0 g) (I0 : NGood g0) (S0 : Still g0.has) (S : Still g.has) (h : g.np = g0.np + 1) : (g.props g0.np).st = 2 := by
  have hf := A.good.inv.full g0.np (by omega) (by omega)
  rcases A.good.inv.st0 g0.np with e | e | e | e | e
  · exact absurd ((A.good.inv.zero _).1 e) hf
  · exact absurd e (still_closed A.good.inv S _)
  · exact e
  · obtain ⟨c, hc, hR⟩ := A.why.st _ e
    rcases hR with hR | hR
    · omega
    · obtain ⟨q, h1, h2, h3, _⟩ := A.moved I0 S0 S hR
      have : q = g0.np := by omega
      subst this; exact h3
  · exact absurd e (A.st4 _ (by omega))
end
end Go.Ng

/- Proposals without common items; messages that were doubled. -/
namespace Go.Ng
set_option linter.unusedVariables false
section
variable {g : G}
/-- No two proposals have a common item; none was dropped. -/
structure Apart (g : G) : Prop where
  good : NGood g
  dis : ∀ p q : Int, p ≠ q → ∀ c ∈ (g.props p).claims, ∀ d ∈ (g.props q).claims, c.item ≠ d.item
  why : Why g fun p j _ => ∃ c ∈ (g.props p).claims, c.item = j ∧ c.version ≠ 0
  st4 : ∀ p : Int, (g.props p).st ≠ 4
theorem Apart.deliver (A : Apart g) {i : Nat} {m : Post} (hi : g.fl[i]? = some m) : Apart (g.deliverG i m) := by
  obtain ⟨_, _, e1, e2, e3, _, hcl⟩ := takeG_same (g := g) m
  have hcl' : ∀ p, ((g.deliverG i m).props p).claims = (g.props p).claims := hcl
  have hW := A.why.deliver A.good hi (fun p j h q hR => hR) (fun p c hc hv ht => ⟨c, hc, rfl, ?_⟩) (fun p q j hp hq => ?_)
  · refine ⟨A.good.deliver hi, fun p q hpq c hc d hd => ?_, ⟨?_, ?_⟩, fun p => ?_⟩
    · rw [hcl'] at hc hd; exact A.dis p q hpq c hc d hd
    · intro p j h; rw [hcl']; exact hW.msg p j h
    · intro p h; have := hW.st p h; rw [hcl'] at this ⊢; exact this
    · show ((g.takeG m).1.props p).st ≠ 4
      rcases takeG_st (g := g) m p with e | ⟨h1, _, _, h4⟩
      · rw [e]; exact A.st4 p
      · rcases h4 with h4 | ⟨_, h4⟩ <;> omega
  · have hnil : (g.items c.item).hist = [] := by
      cases hh : (g.items c.item).hist with
      | nil => rfl
      | cons q t =>
        have hq : q ∈ (g.items c.item).hist := by rw [hh]; simp
        have ht' := A.good.inv.ht _ _ hq
        have hne : p ≠ q := fun e => ht (by rw [e]; exact ht')
        have h3 := A.good.inv.e3 c.item 0 q (by rw [hh]; rfl)
        exact A.dis p q hne c hc ⟨c.item, _⟩ h3 rfl |>.elim
    have := A.good.inv.vh c.item
    rw [hnil] at this
    intro e
    apply hv
    rw [e, this]; rfl
  · obtain ⟨i1, _, h1⟩ := A.good.inv.qcl _ _ hp
    obtain ⟨i2, _, h2⟩ := A.good.inv.hcl _ _ hq
    simp only [G.cl, Option.map_eq_some_iff] at h1 h2
    obtain ⟨c1, hc1, e1⟩ := h1
    obtain ⟨c2, hc2, e2⟩ := h2
    have hne : p ≠ q := by
      rintro rfl
      exact (A.good.inv.hh _ _ hq).2 hp
    exact absurd (e1.trans e2.symm) (A.dis p q hne _ (List.mem_of_getElem? hc1) _ (List.mem_of_getElem? hc2))
theorem Apart.propose (A : Apart g) {place : Int} {l : List Clm} {c : Clm} (hl : ClaimsOk g.n l) (hc : l[0]? = some c) (hd : ∀ p : Int, ∀ d ∈ (g.props p).claims, ∀ c ∈ l, d.item ≠ c.item) : Apart (g.proposeG place l c) := by
  have hp : ∀ p, p ≠ (g.np : Int) → (g.proposeG place l c).props p = g.props p := fun p e => by simp [G.proposeG, G.setP, e]
  have hq : (g.proposeG place l c).props g.np = ⟨l, 1, 0⟩ := by simp [G.proposeG, G.setP]
  refine ⟨A.good.propose hl hc, ?_, ⟨?_, ?_⟩, ?_⟩
  · intro p q hpq c hc d hd'
    by_cases e : p = (g.np : Int)
    · subst e
      rw [hq] at hc; rw [hp q (fun e => hpq e.symm)] at hd'
      exact fun e => hd q d hd' c hc e.symm
    · rw [hp p e] at hc
      by_cases e' : q = (g.np : Int)
      · subst e'; rw [hq] at hd'; exact hd p c hc d hd'
      · rw [hp q e'] at hd'; exact A.dis p q hpq c hc d hd'
  · rintro p j ⟨x, hx, h1, h2, h3⟩
    rcases List.mem_append.1 hx with hx | hx
    · have h := A.why.msg p j ⟨x, hx, h1, h2, h3⟩
      have hr : p ≠ (g.np : Int) := by
        obtain ⟨c, hc, _⟩ := h
        have := claims_rng A.good hc; omega
      rw [hp p hr]; exact h
    · rw [List.mem_singleton.1 hx] at h1; simp at h1
  · intro p h3
    by_cases e : p = (g.np : Int)
    · subst e; rw [hq] at h3; simp at h3
    · rw [hp p e] at h3 ⊢; exact A.why.st p h3
  · intro p
    by_cases e : p = (g.np : Int)
    · subst e; rw [hq]; simp
    · rw [hp p e]; exact A.st4 p
/-- How a proposal that has its items for itself is decided. -/
def aloneI (l : List Clm) : Int := if l.all (fun c => c.version == 0) then 2 else 3
theorem Apart.end_ (A : Apart g) (S : Still g.has) {p : Int} (h0 : 0 ≤ p) (h1 : p < g.np) : (g.props p).st = aloneI (g.props p).claims := by
  have I := A.good
  have hf := I.inv.full p h0 h1
  unfold aloneI
  rcases I.inv.st0 p with e | e | e | e | e
  · exact absurd ((I.inv.zero _).1 e) hf
  · exact absurd e (still_closed I.inv S _)
  · rw [e, if_pos]
    rw [List.all_eq_true]
    intro c hc
    rw [beq_iff_eq]
    have h := ((all_moved I.inv S hc).2 e)
    obtain ⟨h2, h3⟩ := h
    have hall : ∀ q ∈ (g.items c.item).hist, q = p := by
      intro q hq
      obtain ⟨v, hv⟩ := List.getElem?_of_mem hq
      have h4 := I.inv.e3 _ _ _ hv
      by_cases e' : p = q
      · exact e'.symm
      · exact (A.dis p q e' c hc ⟨c.item, _⟩ h4 rfl).elim
    have hnd := I.inv.hnd c.item
    have hlen : (g.items c.item).hist.length ≤ 1 := by
      cases hh : (g.items c.item).hist with
      | nil => simp
      | cons a t =>
        cases t with
        | nil => simp
        | cons b t =>
          rw [hh] at hall hnd
          have ha := hall a (by simp)
          have hb := hall b (by simp)
          simp [ha, hb] at hnd
    have := (List.getElem?_eq_some_iff.1 h2).1
    omega
  · rw [e, if_neg]
    rw [List.all_eq_true]
    intro hall
    obtain ⟨c, hc, d, hd, _, hv⟩ := A.why.st p e
    have := hall d hd
    rw [beq_iff_eq] at this
    exact hv this
  · exact absurd e (A.st4 p)

/-! ### Twice -/
theorem setI_same {j : Int} : g.setI j (g.items j) = g := by
  cases g
  simp only [G.setI, G.mk.injEq, true_and, and_true]
  funext i; split <;> simp_all
theorem thr_add {p : Int} {l : List Int} : addP p (addP p l) = addP p l := by
  rw [addP, if_pos (mem_addP.2 (.inl rfl))]
theorem filter_twice {p : Int} {l : List Int} : (l.filter (· ≠ p)).filter (· ≠ p) = l.filter (· ≠ p) := by
  rw [List.filter_filter]; simp
theorem takeG_twice (I : NGood g) {i : Nat} {m : Post} (hi : g.fl[i]? = some m) : ((g.takeG m).1.takeG m) = ((g.takeG m).1, [], []) := by
  have hm := List.mem_of_getElem? hi
  have hmc := I.inv.mcl _ _ _ (has_mem hm)
  by_cases k2 : m.kind = 2
  · have e : ∀ h : G, h.takeG m = h.grantedG m := fun h => by rw [G.takeG, if_pos k2]
    rw [e, e]
    by_cases h : g.at_ m.prop m.item
    · rw [G.grantedG, if_neg]
      unfold G.grantedG
      rw [if_pos h]
      obtain ⟨h1, h2⟩ := h
      split
      · rename_i c hc
        rintro ⟨_, h4⟩
        simp only [G.setP, if_true] at h4
        have := I.inv.srt m.prop _ _ _ _ h2 h4 (by omega)
        omega
      · rintro ⟨h3, _⟩
        simp [G.setP] at h3
    · have e2 : g.grantedG m = (g, [], []) := by rw [G.grantedG, if_neg h]
      rw [e2]
      exact e2
  · by_cases k3 : m.kind = 3
    · have e : ∀ h : G, h.takeG m = h.refusedG m := fun h => by rw [G.takeG, if_neg k2, if_pos k3]
      rw [e, e]
      by_cases h : g.at_ m.prop m.item
      · rw [G.refusedG, if_neg]
        unfold G.refusedG
        rw [if_pos h]
        rintro ⟨h3, _⟩
        simp [G.setP] at h3
      · have e2 : g.refusedG m = (g, [], []) := by rw [G.refusedG, if_neg h]
        rw [e2]; exact e2
    · by_cases k1 : m.kind = 1
      · have e : ∀ h : G, h.takeG m = h.askedG m := fun h => by rw [G.takeG, if_neg k2, if_neg k3, if_pos k1]
        rw [e, e]
        rw [G.askedG, if_pos]
        unfold G.askedG
        split
        · assumption
        · split
          · left; simp [G.setI, mem_addP]
          · split
            · right; right; simp [G.setI]
            · right; left; simp [G.setI]
      · by_cases k4 : m.kind = 4
        · have e : ∀ h : G, h.takeG m = h.committedG m := fun h => by rw [G.takeG, if_neg k2, if_neg k3, if_neg k1, if_pos k4]
          rw [e, e]
          by_cases h : (g.items m.item).hold = some m.prop
          · rw [G.committedG, if_neg]
            unfold G.committedG
            rw [if_pos h]
            simp [G.setI]
          · have e2 : g.committedG m = (g, [], []) := by rw [G.committedG, if_neg h]
            rw [e2]; exact e2
        · have e : ∀ h : G, h.takeG m = h.freedG m := fun h => by rw [G.takeG, if_neg k2, if_neg k3, if_neg k1, if_neg k4]
          rw [e, e]
          have key : ∀ g' : G, (g'.items m.item).hold ≠ some m.prop → m.prop ∈ (g'.items m.item).thr → m.prop ∉ (g'.items m.item).queue → g'.freedG m = (g', [], []) := by
            intro g' h1 h2 h3
            rw [G.freedG, if_neg h1]
            have e1 : addP m.prop (g'.items m.item).thr = (g'.items m.item).thr := by rw [addP, if_pos h2]
            have e2 : (g'.items m.item).queue.filter (· ≠ m.prop) = (g'.items m.item).queue := by
              rw [List.filter_eq_self]
              intro a ha
              simp only [ne_eq, decide_not, Bool.not_eq_eq_eq_not, Bool.not_true, decide_eq_false_iff_not]
              rintro rfl; exact h3 ha
            rw [e1, e2]
            have : ({ g'.items m.item with thr := (g'.items m.item).thr, queue := (g'.items m.item).queue } : It) = g'.items m.item := by cases g'.items m.item; rfl
            rw [this, setI_same]
          apply key
          · unfold G.freedG
            split
            · split
              · simp [G.setI]
              · rename_i a l hf
                simp only [G.setI, if_true]
                intro e
                have ha : a ∈ (g.items m.item).queue.filter (· ≠ m.prop) := by rw [hf]; simp
                have := (List.mem_filter.1 ha).2
                simp only [ne_eq, decide_not, Bool.not_eq_eq_eq_not, Bool.not_true, decide_eq_false_iff_not] at this
                exact this (Option.some.inj e)
            · rename_i h; simpa [G.setI] using h
          · unfold G.freedG
            split
            · split <;> simp [G.setI, mem_addP]
            · simp [G.setI, mem_addP]
          · unfold G.freedG
            split
            · split
              · simp [G.setI]
              · rename_i a l hf
                simp only [G.setI, if_true]
                intro e
                have e := (List.mem_filter.1 e).1
                rw [← hf] at e
                have := (List.mem_filter.1 e).2
                simp at this
            · simp only [G.setI, if_true]
              intro e
              have := (List.mem_filter.1 e).2
              simp at this
end
end Go.Ng

/- Two nets that differ in the order of their messages alone. -/
namespace Go.Proofs.Ytclkokkppgchfaa
open Go.Ng
set_option linter.unusedVariables false
/-- The same net with other messages. -/
def flTo (g : G) (F : List Post) : G := { g with fl := F }
theorem asked_fl (g : G) (F : List Post) (m : Post) : (flTo g F).askedG m = (flTo (g.askedG m).1 F, (g.askedG m).2) := by
  unfold G.askedG flTo
  dsimp only
  by_cases h : m.prop ∈ (g.items m.item).thr ∨ (g.items m.item).hold = some m.prop ∨ m.prop ∈ (g.items m.item).queue
  · simp only [if_pos h]
  · simp only [if_neg h]
    by_cases h2 : m.version ≠ (g.items m.item).ver
    · simp only [if_pos h2]; rfl
    · simp only [if_neg h2]
      cases h3 : (g.items m.item).hold <;> rfl
theorem granted_fl (g : G) (F : List Post) (m : Post) : (flTo g F).grantedG m = (flTo (g.grantedG m).1 F, (g.grantedG m).2) := by
  unfold G.grantedG
  have e : (flTo g F).at_ m.prop m.item = g.at_ m.prop m.item := rfl
  by_cases h : g.at_ m.prop m.item
  · rw [if_pos h, if_pos (by rw [e]; exact h)]
    show (match (g.props m.prop).claims[(g.props m.prop).got + 1]? with | some c => _ | none => _) = _
    cases h3 : (g.props m.prop).claims[(g.props m.prop).got + 1]? <;> rfl
  · rw [if_neg h, if_neg (by rw [e]; exact h)]
theorem refused_fl (g : G) (F : List Post) (m : Post) : (flTo g F).refusedG m = (flTo (g.refusedG m).1 F, (g.refusedG m).2) := by
  unfold G.refusedG
  have e : (flTo g F).at_ m.prop m.item = g.at_ m.prop m.item := rfl
  by_cases h : g.at_ m.prop m.item
  · rw [if_pos h, if_pos (by rw [e]; exact h)]; rfl
  · rw [if_neg h, if_neg (by rw [e]; exact h)]
theorem committed_fl (g : G) (F : List Post) (m : Post) : (flTo g F).committedG m = (flTo (g.committedG m).1 F, (g.committedG m).2) := by
  unfold G.committedG
  by_cases h : (g.items m.item).hold = some m.prop
  · rw [if_pos h, if_pos (show ((flTo g F).items m.item).hold = some m.prop from h)]; rfl
  · rw [if_neg h, if_neg (show ¬ ((flTo g F).items m.item).hold = some m.prop from h)]
theorem freed_fl (g : G) (F : List Post) (m : Post) : (flTo g F).freedG m = (flTo (g.freedG m).1 F, (g.freedG m).2) := by
  unfold G.freedG
  by_cases h : (g.items m.item).hold = some m.prop
  · rw [if_pos h, if_pos (show ((flTo g F).items m.item).hold = some m.prop from h)]
    show (match (g.items m.item).queue.filter (· ≠ m.prop) with | [] => _ | a :: l => _) = _
    cases h3 : (g.items m.item).queue.filter (· ≠ m.prop) <;> rfl
  · rw [if_neg h, if_neg (show ¬ ((flTo g F).items m.item).hold = some m.prop from h)]; rfl
theorem take_fl (g : G) (F : List Post) (m : Post) : (flTo g F).takeG m = (flTo (g.takeG m).1 F, (g.takeG m).2) := by
  unfold G.takeG
  split
  · exact granted_fl g F m
  · split
    · exact refused_fl g F m
    · split
      · exact asked_fl g F m
      · split
        · exact committed_fl g F m
        · exact freed_fl g F m
/-- The same, but for the order of the messages. -/
structure SameG (a b : G) : Prop where
  eq : a = flTo b a.fl
  fl : a.fl.Perm b.fl
theorem SameG.rfl' (g : G) : SameG g g := ⟨rfl, List.Perm.refl _⟩
theorem SameG.np {a b : G} (S : SameG a b) : a.np = b.np := by rw [S.eq]; rfl
theorem SameG.n {a b : G} (S : SameG a b) : a.n = b.n := by rw [S.eq]; rfl
theorem SameG.items {a b : G} (S : SameG a b) : a.items = b.items := by rw [S.eq]; rfl
theorem SameG.props {a b : G} (S : SameG a b) : a.props = b.props := by rw [S.eq]; rfl
theorem SameG.dec {a b : G} (S : SameG a b) : a.dec = b.dec := by rw [S.eq]; rfl
theorem perm_erase : ∀ (l : List Post) (k : Nat) {m : Post}, l[k]? = some m → (m :: l.eraseIdx k).Perm l
  | [], k, m, h => by simp at h
  | x :: l, 0, m, h => by simp at h; subst h; exact List.Perm.refl _
  | x :: l, k + 1, m, h => by
    have := perm_erase l k (m := m) (by simpa using h)
    rw [List.eraseIdx_cons_succ]
    exact (List.Perm.swap x m _).trans (this.cons x)
theorem perm_sum {l l' : List Nat} (h : l.Perm l') : l.sum = l'.sum := by
  induction h with
  | nil => rfl
  | cons x _ ih => simp [ih]
  | swap x y l => simp; omega
  | trans _ _ h1 h2 => exact h1.trans h2
theorem SameG.wt {a b : G} (S : SameG a b) (W : Wt) : W.all a = W.all b := by
  simp only [Wt.all, S.np, S.n, S.items, S.props]
  have : W.fl a.fl = W.fl b.fl := perm_sum (S.fl.map _)
  rw [this]
theorem SameG.doP {a b : G} (S : SameG a b) (n : Int) (l : List Clm) : SameG (doP a n l).1 (doP b n l).1 ∧ (doP a n l).2 = (doP b n l).2 := by
  have e := S.eq
  generalize hF : a.fl = F at e
  have hp : F.Perm b.fl := hF ▸ S.fl
  subst e
  unfold Go.Proofs.Ytclkokkppgchfaa.doP
  by_cases h : n < 0 ∨ (b.places : Int) ≤ n
  · rw [if_pos h, if_pos (show n < 0 ∨ ((flTo b F).places : Int) ≤ n from h)]; exact ⟨⟨rfl, hp⟩, rfl⟩
  · rw [if_neg h, if_neg (show ¬ (n < 0 ∨ ((flTo b F).places : Int) ≤ n) from h)]
    by_cases h2 : claimedB b.n l = false
    · rw [if_pos h2, if_pos (show claimedB (flTo b F).n l = false from h2)]; exact ⟨⟨rfl, hp⟩, rfl⟩
    · rw [if_neg h2, if_neg (show ¬ claimedB (flTo b F).n l = false from h2)]
      cases h3 : l[0]? with
      | none => exact ⟨⟨rfl, hp⟩, rfl⟩
      | some c => exact ⟨⟨rfl, hp.append_right _⟩, rfl⟩
theorem SameG.doD {a b : G} (S : SameG a b) (n : Int) : SameG (doD a n).1 (doD b n).1 ∧ (doD a n).2 = (doD b n).2 := by
  have e := S.eq
  generalize hF : a.fl = F at e
  have hp : F.Perm b.fl := hF ▸ S.fl
  subst e
  unfold Go.Proofs.Ytclkokkppgchfaa.doD
  by_cases h : n < 0 ∨ (b.np : Int) ≤ n
  · rw [if_pos h, if_pos (show n < 0 ∨ ((flTo b F).np : Int) ≤ n from h)]; exact ⟨⟨rfl, hp⟩, rfl⟩
  · rw [if_neg h, if_neg (show ¬ (n < 0 ∨ ((flTo b F).np : Int) ≤ n) from h)]
    by_cases h2 : (b.props n).st ≠ 1
    · rw [if_pos h2, if_pos (show ((flTo b F).props n).st ≠ 1 from h2)]; exact ⟨⟨rfl, hp⟩, rfl⟩
    · rw [if_neg h2, if_neg (show ¬ ((flTo b F).props n).st ≠ 1 from h2)]; exact ⟨⟨rfl, hp.append_right _⟩, rfl⟩
/-- A message delivered twice, and once. -/
theorem SameG.twice {a b : G} (S : SameG a b) (I : NGood a) {m : Post} {i i2 p : Nat} (hi : a.fl[i]? = some m) (hp : b.fl[p]? = some m)
    (hi2 : (({ a with fl := a.fl ++ [m] } : G).deliverG i m).fl[i2]? = some m) :
    SameG ((({ a with fl := a.fl ++ [m] } : G).deliverG i m).deliverG i2 m) (b.deliverG p m) := by
  have hlt := (List.getElem?_eq_some_iff.1 hi).1
  have t1 := take_fl a (a.fl ++ [m]) m
  have hI2 : NGood ({ a with fl := a.fl ++ [m] } : G) := I.double (List.mem_of_getElem? hi)
  have t2 : ({ a with fl := a.fl ++ [m] } : G).takeG m = (flTo (a.takeG m).1 (a.fl ++ [m]), (a.takeG m).2) := t1
  have d1 : ({ a with fl := a.fl ++ [m] } : G).deliverG i m = flTo (a.takeG m).1 ((a.fl ++ [m]).eraseIdx i ++ (a.takeG m).2.1) := by
    unfold G.deliverG; rw [t2]; rfl
  rw [d1] at hi2 ⊢
  have t3 : (flTo (a.takeG m).1 ((a.fl ++ [m]).eraseIdx i ++ (a.takeG m).2.1)).takeG m = (flTo (a.takeG m).1 ((a.fl ++ [m]).eraseIdx i ++ (a.takeG m).2.1), [], []) := by
    rw [take_fl, takeG_twice I hi]
  have e := S.eq
  have tb : (a.takeG m) = (flTo (b.takeG m).1 a.fl, (b.takeG m).2) := by
    rw [e]; exact take_fl b a.fl m
  refine ⟨?_, ?_⟩
  · unfold G.deliverG
    rw [t3, tb]
    rfl
  · unfold G.deliverG
    rw [t3, tb]
    show (((a.fl ++ [m]).eraseIdx i ++ (b.takeG m).2.1).eraseIdx i2 ++ []).Perm (b.fl.eraseIdx p ++ (b.takeG m).2.1)
    rw [List.append_nil]
    have hi2' : ((a.fl ++ [m]).eraseIdx i ++ (b.takeG m).2.1)[i2]? = some m := by
      rw [tb] at hi2; exact hi2
    have pe := @perm_erase
    have p1 := pe _ _ hi2'
    have p2 : (m :: (a.fl ++ [m]).eraseIdx i).Perm (a.fl ++ [m]) := pe _ _ (by rw [List.getElem?_append_left hlt]; exact hi)
    have p3 := pe _ _ hp
    have p4 : (m :: m :: ((a.fl ++ [m]).eraseIdx i ++ (b.takeG m).2.1).eraseIdx i2).Perm (m :: m :: (b.fl.eraseIdx p ++ (b.takeG m).2.1)) := by
      refine (p1.cons m).trans ?_
      refine (p2.append_right (b.takeG m).2.1).trans ?_
      refine ((List.perm_append_singleton m a.fl).append_right _).trans ?_
      refine List.Perm.cons m ?_
      exact ((S.fl.trans p3.symm).append_right _)
    exact (List.Perm.cons_inv (List.Perm.cons_inv p4))
theorem still_wt {g : G} (I : NGood g) (h : g.fl = []) : W2.all g = 0 := by
  have S : Still g.has := fun k p j ⟨m, hm, _⟩ => by rw [h] at hm; cases hm
  rw [Wt.all, sumI_zero _ _ (fun i => by rw [Wt.pr, if_neg (still_closed I.inv S i)]), sumI_zero _ _ (fun j => by rw [(still_free I.inv S j).2]; rfl), h]
  rfl
theorem still_doP {g : G} (I : NGood g) (h : g.fl = []) (n : Int) (l : List Clm) : W2.all (doP g n l).1 ≤ 256 := by
  have h0 := still_wt I h
  unfold doP
  split
  · show W2.all g ≤ _; omega
  · split
    · show W2.all g ≤ _; omega
    · rename_i hcl
      have hl := (claimed_of (n := g.n) (l := l) (by simpa using hcl)).len
      split
      · show W2.all (g.proposeG n l _) ≤ _
        rw [wt_propose, h0]
        simp only [W2]; omega
      · show W2.all g ≤ _; omega
theorem still_doD {g : G} (I : NGood g) (h : g.fl = []) (n : Int) : (doD g n).1 = g := by
  have S : Still g.has := fun k p j ⟨m, hm, _⟩ => by rw [h] at hm; cases hm
  unfold doD
  split
  · rfl
  · rw [if_pos (still_closed I.inv S n)]
end Go.Proofs.Ytclkokkppgchfaa

/- NegoOne: the walk. -/
namespace Go.Proofs.Ytclkokkppgchfaa
open Go.RowKit Go.Ng Go.Proofs.YtclkokkppgchfaaW.PrintLast
set_option linter.unusedSimpArgs false
set_option linter.unusedVariables false
/-- The beginning of a row. -/
theorem row_prefix {tag : Nat → Tag} {t : Tag} {w : World} {A : Option Addr} {n cap : Nat} {l : List Int} (h : Row tag t 3 1 w (.slice A n cap) n (ints l)) {i : Nat} (hi : i ≤ n) : Rd 1 w (.slice A i cap) i (ints (l.take i)) := by
  have hlen : l.length = n := by have := h.len; simpa [ints] using this
  have hrd := h.rd (ints_one l)
  refine ⟨by simp [ints]; omega, ints_one _, ?_⟩
  rcases hrd.form with ⟨hv, hn⟩ | ⟨b, off, cap', hv, h1, h2, h3⟩
  · injection hv with a1 a2 a3
    subst a1 a3
    have : i = 0 := by omega
    subst this
    exact .inl ⟨rfl, rfl⟩
  · injection hv with a1 a2 a3
    subst a1 a3
    refine .inr ⟨b, off, cap, rfl, by omega, h2, fun j u hu => h3 j u ?_⟩
    have hj : j < i := by
      have := (List.getElem?_eq_some_iff.1 hu).1
      simp [ints] at this; omega
    rw [ints, List.getElem?_map, List.getElem?_take, if_pos hj] at hu
    rw [ints, List.getElem?_map]; exact hu
theorem nodup_take {l : List Int} (h : l.Nodup) {i : Nat} {x : Int} (hx : l[i]? = some x) : x ∉ l.take i := by
  intro hm
  obtain ⟨j, hj⟩ := List.getElem?_of_mem hm
  rw [List.getElem?_take] at hj
  split at hj
  · rename_i hji
    obtain ⟨h1, h2⟩ := List.getElem?_eq_some_iff.1 hx
    obtain ⟨h3, h4⟩ := List.getElem?_eq_some_iff.1 hj
    have := (List.pairwise_iff_getElem.1 h) j i h3 h1 hji
    exact this (h4.trans h2.symm)
  · cases hj
theorem runG_same (g : G) : ∀ l : List OpM, (runG g l).n = g.n := by
  intro l
  induction l generalizing g with
  | nil => rfl
  | cons o l ih =>
    show (runG (doG g o).1 l).n = g.n
    rw [ih]
    have hL : ∀ i : Int, (doL g i).1.n = g.n := by
      intro i; unfold doL; split
      · rfl
      · split
        · exact (takeG_same (g := g) _).2.2.1
        · rfl
    unfold doG
    split
    · unfold doP; repeat' (first | rfl | split)
    · split
      · unfold doD; repeat' (first | rfl | split)
      · split
        · exact hL _
        · split
          · unfold doB; repeat' (first | rfl | split)
          · rfl
set_option maxRecDepth 100000 in
set_option maxHeartbeats 6400000 in
theorem negoOne_ok {tag : Nat → Tag} {w : World} {v : Value} {places : Int} {items : List Int} {l : List OpM} (h : WorldRd tag w v places items l) (hok : TagOk tag w) :
    Calls Try.prog 9 #[v] w fun e w' => e = .returned (.bool true) ∧ ∃ tag', Fr (fun t => 1 ≤ t.1) tag tag' w w' := by
  have HS := fun {tag : Nat → Tag} {w : World} => @sane_ok tag w 1
  obtain ⟨vi, vl, rfl, hi, hie, hl⟩ := h.form
  obtain ⟨IA, icap, rfl, q1, q2⟩ := hi.slice
  obtain ⟨LA, lcap, rfl, q3, q4⟩ := hl.slice
  unfold maxLen at q2
  have hFa : Fr (fun _ => False) tag tag w (w.alloc (.cells #[.int .i64 places, .slice IA items.length icap, .slice LA l.length lcap] 75)) := Fr.alloc hok _
  have HFa := Lib.hid hFa
  have HW := Lib.hid (h.fr hFa (fun t h => h.elim))
  have hnew : (tag w.heap.size).1 = 0 := hok.new
  clear h hi hie hl hFa
  by_cases hb : fewB items.length l = false ∨ validB places items = false
  · have HB := Lib.hid hb
    clear hb
    go_enter Try.func9, Try.ntmps9
    go_wp2_with (first
    | (
      go_at_call 16
      refine (HS HFa.out.dom (by omega)).mono ?_
      rintro e w1 ⟨rfl, T1, hF1, hok1⟩
      have k0 : w1.cell? ⟨w.heap.size, 0, none⟩ = some (.int .i64 places) := hF1.cell (by go_simp) (by simp only [hnew]; omega)
      have k1 : w1.cell? ⟨w.heap.size, 1, none⟩ = some (.slice IA items.length icap) := hF1.cell (by go_simp) (by simp only [hnew]; omega)
      have k2 : w1.cell? ⟨w.heap.size, 2, none⟩ = some (.slice LA l.length lcap) := hF1.cell (by go_simp) (by simp only [hnew]; omega)
      have HW1 := Lib.hid (HW.out.fr hF1 (fun t h => by omega))
      have HF1 := Lib.hid ((HFa.out.mono (S' := fun t => 1 ≤ t.1) (fun _ h => h.elim)).trans (hF1.mono (fun t h => by omega)))
      clear hF1)
    | (
      go_at_call 39
      refine (begun_no HW1.out HF1.out.dom HB.out).mono ?_
      rintro e w2 ⟨rfl, hF2⟩
      have HF2 := Lib.hid (HF1.out.trans (hF2.mono (fun _ h => h.elim)))
      clear hF2))
    go_ret
    exact ⟨rfl, T1, HF2.out⟩
  · simp only [not_or, Bool.not_eq_false] at hb
    obtain ⟨hb1, hb2⟩ := hb
    have HB1 := Lib.hid hb1
    have HB2 := Lib.hid hb2
    clear hb1 hb2
    go_enter Try.func9, Try.ntmps9
    go_wp2_with (first
    | (
      go_at_call 16
      refine (HS HFa.out.dom (by omega)).mono ?_
      rintro e w1 ⟨rfl, T1, hF1, hok1⟩
      have k0 : w1.cell? ⟨w.heap.size, 0, none⟩ = some (.int .i64 places) := hF1.cell (by go_simp) (by simp only [hnew]; omega)
      have k1 : w1.cell? ⟨w.heap.size, 1, none⟩ = some (.slice IA items.length icap) := hF1.cell (by go_simp) (by simp only [hnew]; omega)
      have k2 : w1.cell? ⟨w.heap.size, 2, none⟩ = some (.slice LA l.length lcap) := hF1.cell (by go_simp) (by simp only [hnew]; omega)
      have HT1 := Lib.hid (hF1.same w.heap.size (by simp))
      have HW1 := Lib.hid (HW.out.fr hF1 (fun t h => by omega))
      have HF1 := Lib.hid ((HFa.out.mono (S' := fun t => 1 ≤ t.1) (fun _ h => h.elim)).trans (hF1.mono (fun t h => by omega)))
      clear hF1)
    | (
      go_at_call 39
      refine (p_begun 100 HW1.out HF1.out.dom (by omega) HB1.out HB2.out).mono ?_
      rintro e w2 ⟨p, rfl, T2, hL2, hF2⟩
      have m1 : w2.cell? ⟨w.heap.size, 1, none⟩ = some (.slice IA items.length icap) := hF2.cell k1 (by simp only [HT1.out, hnew]; omega)
      have HL2 := Lib.hid hL2
      have HF2 := Lib.hid (HF1.out.trans (hF2.mono (fun t h => by omega)))
      clear hF2 hL2 k0 k1 k2))
    have hn : (runG (beginG places.toNat items) l).n = items.length := by rw [runG_same]; rfl
    generalize runG (beginG places.toNat items) l = g at HL2 hn
    have HN := Lib.hid hn
    clear hn
    go_loopw [26] (fun i wr => ∃ n : Nat, n ≤ items.length ∧ i = .int .i64 n ∧ ∃ Tr : Nat → Tag, Hid (LiveP Tr 100 wr p g 80) ∧ Hid (Fr (fun t => 1 ≤ t.1) tag Tr w wr)) (fun i _ => items.length - (intOf i).toNat)
    case atStart => exact ⟨0, Nat.zero_le _, rfl, T2, HL2, HF2⟩
    case round =>
      obtain ⟨n, hn, rfl, Tr, HLr, HFr⟩ := hrel
      by_cases hlt : n < items.length
      · have HJ : Hid (n < g.n) := Lib.hid (by rw [HN.out]; exact hlt)
        have HV : Hid ((g.items n).ver = ((g.items n).hist.length : Int)) := Lib.hid (HLr.out.good.inv.vh n)
        have HD := Lib.hid (HLr.out.good.inv.hnd n)
        have hhl : (g.items n).hist.length ≤ 80 := by have := hist_len HLr.out.good n; have := HLr.out.np; omega
        obtain ⟨hl, hhl0⟩ : ∃ x, x = (g.items n).hist := ⟨_, rfl⟩
        rw [← hhl0] at HV HD hhl
        have HH := Lib.hid hhl0
        clear hhl0
        go_wp2_with (first
        | (
          go_at_call 49
          refine (p_history (j := n) (300, 0, 0) HLr.out HJ.out (by decide)).mono ?_
          rintro e w3 ⟨v3, rfl, T3, hrow, hF3⟩
          rw [← HH.out] at hrow
          obtain ⟨A3, c3, rfl, z1, z2⟩ := hrow.form
          unfold maxLen at z2
          have HR3 := Lib.hid hrow
          have HL3 := Lib.hid (HLr.out.frF hF3)
          have HF3 := Lib.hid (HFr.out.trans (hF3.mono (fun _ h => h.elim)))
          clear hrow hF3)
        | (
          go_at_call 50
          refine (p_version (j := n) HL3.out HJ.out).mono ?_
          rw [HV.out]
          rintro e w4 ⟨rfl, hF4⟩
          have HR4 := Lib.hid (HR3.out.fr hF4 (fun x => x))
          have HL4 := Lib.hid (HL3.out.frF hF4)
          have HF4 := Lib.hid (HF3.out.trans (hF4.mono (fun _ h => h.elim)))
          clear hF4))
        go_loopw [55] (fun i wq => ∃ m : Nat, m ≤ hl.length ∧ i = .int .i64 m ∧ Hid (Fr (fun _ => False) T3 T3 w4 wq)) (fun i _ => hl.length - (intOf i).toNat)
        case atStart => exact ⟨0, Nat.zero_le _, rfl, Lib.hid (Fr.refl HF4.out.dom)⟩
        case round =>
          obtain ⟨m, hm, rfl, HFq⟩ := hrel
          by_cases hmt : m < hl.length
          · obtain ⟨x, hx⟩ : ∃ x, hl[m]? = some x := ⟨_, List.getElem?_eq_getElem hmt⟩
            have hr4 := HR4.out.fr HFq.out (fun x => x)
            obtain ⟨b, rfl, _, _, hcell⟩ := hr4.cell rfl (j := m) (by simpa [ints] using hmt)
            have e0 : wr.cell? ⟨b, m, none⟩ = some (.int .i64 x) := by rw [hcell, ints, List.getElem?_map, hx]; rfl
            have HPR := Lib.hid (row_prefix hr4 (i := m) (by omega))
            have hno : decide (x ∈ hl.take m) = false := decide_eq_false (nodup_take HD.out hx)
            have HNO := Lib.hid hno
            have i5 : (0 : Int) ≤ (m : Int) := by omega
            have i6 : (m : Int) < (hl.length : Int) := by omega
            have i7 : (m : Int) ≤ (c3 : Int) := by omega
            have htl : (hl.take m).length = m := by rw [List.length_take]; omega
            have HTL := Lib.hid htl
            have hc3 : ¬ c3 = m ∨ c3 = m := by omega
            clear hx hr4 hcell hno htl hc3
            go_wp2_with (
              go_at_call 51
              refine (containsN_ok (hl.take m) x wr (by rw [HTL.out]; exact HPR.out) (by rw [HTL.out]; omega)).mono ?_
              rw [HNO.out]
              rintro e w' ⟨rfl, hw⟩
              replace hw := hw.symm
              subst hw)
            go_roundw
            case rel => exact ⟨m + 1, by omega, by go_num, HFq⟩
            case measure => simp [intOf]; omega
          · have hmm : m = hl.length := by omega
            subst hmm
            go_wp2_with fail
            go_roundw
            case rel => exact ⟨n + 1, by omega, by go_num, T3, Lib.hid (HL4.out.frF HFq.out), Lib.hid (HF4.out.trans (HFq.out.mono (fun _ h => h.elim)))⟩
            case measure => simp [intOf]; omega
      · have hnn : n = items.length := by omega
        subst hnn
        go_wp2_with fail
        go_ret
        exact ⟨rfl, Tr, HFr.out⟩
end Go.Proofs.Ytclkokkppgchfaa

/- calm, versions, Proposals. -/
namespace Go.Proofs.Ytclkokkppgchfaa
open Go.RowKit Go.Ng Go.Proofs.YtclkokkppgchfaaW.PrintLast
set_option linter.unusedSimpArgs false
set_option linter.unusedVariables false
section
variable {tag : Nat → Tag} {w : World} {B p k : Nat} {g : G}
theorem calm_ok (choices : List Int) {v : Value} (L : LiveP tag B w p g k) (hk : k ≤ 150) (hr : Rd 1 w v choices.length (ints choices)) (he : Ext tag w v) (hc : choices.length ≤ 1000000) :
    Calls Try.prog 37 #[.pointer (some ⟨p, 0, none⟩), v] w fun e w' => e = .returned (.bool true) ∧ ∃ (m : Nat) (tag' : Nat → Tag), (calmN choices g m).1.fl = [] ∧ m ≤ W2.all g ∧ LiveP tag' B w' p (calmN choices g m).1 k ∧ Fr (fun t => B ≤ t.1 ∧ t.1 ≤ B + 33) tag tag' w w' := by
  have HC := Lib.hid (p_calm choices L hk hr he hc)
  clear L hr he
  go_enter Try.func37, Try.ntmps37
  go_wp2_with (first
  | (
    go_at_call 33
    refine HC.out.mono ?_
    rintro e w1 ⟨m, cv, rfl, hfl, hm, T1, hL1, _, hF1⟩
    have HL1 := Lib.hid hL1
    have HFL := Lib.hid hfl
    have HF1 := Lib.hid hF1
    clear hL1 hfl hF1)
  | (
    go_at_call 42
    refine (p_flight (B + 40, 3, 0) HL1.out hk).mono ?_
    rintro e w2 ⟨v2, rfl, T2, hrow, hF2⟩
    obtain ⟨A2, c2, h2, _, _⟩ := hrow.form
    rw [HFL.out] at h2
    simp only [List.length_nil] at h2
    subst h2
    have HL2 := Lib.hid (HL1.out.frF hF2)
    have HF2 := Lib.hid (HF1.out.trans (hF2.mono (fun _ h => h.elim)))
    clear hrow hF2))
  go_ret
  exact ⟨rfl, m, T2, HFL.out, hm, HL2.out, HF2.out⟩
set_option maxRecDepth 100000 in
set_option maxHeartbeats 3200000 in
theorem nproposals_ok {N : NetM} (r : Nat) (h : NRep tag B w N) (hok : TagOk tag w) (hr : r < B ∨ B + N.places.length < r) (hr0 : r ≠ 0) (hn : N.claims.length ≤ 1000) (hl : ∀ (i : Nat) (l : List Clm), N.claims[i]? = some l → l.length ≤ 1000) :
    Calls Try.prog 48 #[.pointer (some ⟨N.ptr, 0, none⟩)] w fun e w' => ∃ v vs, e = .returned v ∧ ∃ tag' : Nat → Tag, Row tag' (r, 0, 0) 34 1 w' v N.claims.length vs ∧ (∀ (i : Nat) (l : List Clm), N.claims[i]? = some l → ∃ u, vs[i]? = some u ∧ Rd 2 w' u l.length (claims l)) ∧ Fr (fun t => t.1 = r) tag tag' w w' := by
  obtain ⟨i0, hi, hz0, hz1, hz2⟩ := info_parts Try.info34
  obtain ⟨pv, sv, fv, xv, hv, yv, dv, hce, h2, h3, h4, ⟨cvs, h5, h6⟩, h7, h8⟩ := h.cells
  obtain ⟨CA, ccap, rfl, q1, q2⟩ := h5.form
  unfold maxLen at q2
  have c3 : w.cell? ⟨N.ptr, 3, none⟩ = some (.slice CA N.claims.length ccap) := cell_of hce 3
  have hcvl : cvs.length = N.claims.length := by have := h5.len; omega
  have H5 := Lib.hid h5
  have H6 := Lib.hid h6
  have HLN := Lib.hid hl
  have HCVL := Lib.hid hcvl
  have hB0 := h.b0
  clear h hce h2 h3 h4 h5 h6 h7 h8 hl hcvl
  go_enter Try.func48, Try.ntmps48
  go_wp2_with fail
  go_loopw [3, 13] (fun a i wr => ∃ n : Nat, n ≤ N.claims.length ∧ i = .int .i64 n ∧ ∃ (Tr : Nat → Tag) (vs : List Value), Hid (Row Tr (r, 0, 0) 34 1 wr a n vs) ∧
    Hid (∀ (i : Nat) (l : List Clm), i < n → N.claims[i]? = some l → ∃ u, vs[i]? = some u ∧ Row Tr (r, 1, (i : Int)) 69 2 wr u l.length (claims l)) ∧ Hid (Fr (fun t => t.1 = r) tag Tr w wr)) (fun _ i _ => N.claims.length - (intOf i).toNat)
  case atStart => exact ⟨0, Nat.zero_le _, rfl, tag, [], Lib.hid (Row.nil _ _ _ _ _), Lib.hid (fun i l h => by omega), Lib.hid (Fr.refl hok)⟩
  case round =>
    obtain ⟨n, hn', rfl, Tr, vs, HRo, HIn, HFr⟩ := hrel
    obtain ⟨RA, rcap, rfl, _, _⟩ := HRo.out.form
    by_cases hlt : n < N.claims.length
    · obtain ⟨l, hx⟩ : ∃ l, N.claims[n]? = some l := ⟨_, List.getElem?_eq_getElem hlt⟩
      obtain ⟨u, hu, hur⟩ := H6.out n l hx
      have h5r := H5.out.fr HFr.out (show ¬ (B, 5, (0 : Int)).1 = r by simp; omega)
      obtain ⟨cb, rfl, _, _, hcell⟩ := h5r.cell rfl (j := n) (by rw [HCVL.out]; exact hlt)
      obtain ⟨UA, ucap, rfl, _, _⟩ := hur.form
      have e0 : wr.cell? ⟨cb, n, none⟩ = some (.slice UA l.length ucap) := by rw [hcell]; exact hu
      have HUR := Lib.hid ((hur.fr HFr.out (show ¬ (B, 6, (n : Int)).1 = r by simp; omega)).rd (claims_one l))
      have hll := HLN.out n l hx
      have HX := Lib.hid hx
      have i5 : (0 : Int) ≤ (n : Int) := by omega
      have i6 : (n : Int) < (N.claims.length : Int) := by omega
      have hokr := HFr.out.dom
      clear hx hu hur h5r hcell
      go_wp2_with (first
      | (
        go_at_call 70
        refine (clone70_ok (r, 1, (n : Int)) l.length (claims l) wr HUR.out hokr (by omega)).mono ?_
        rintro e w1 ⟨v1, rfl, T1, hrow, hF1⟩
        obtain ⟨A1, c1, rfl, _, _⟩ := hrow.form
        have HV1 := Lib.hid hrow
        have HF1 := Lib.hid hF1
        have HR1 := Lib.hid (HRo.out.fr hF1 (fun x => x))
        clear hrow hF1)
      | (
        at_builtin
        refine append_list rfl (.tmp 17) (.tmp 20) 87 rfl (by rfl) (by rfl) (HR1.out.alloc _) (HF1.out.dom.alloc _) Try.underlying87 hi hz0 hz1 hz2 rfl (by decide) [.slice A1 l.length c1] rfl (news_at (Go.Ng.heap_alloc_at _ _)) (by simp [Value.oneCell']) (by decide) (by unfold maxLen; omega) (by omega) ?_
        intro g2 cap2 w2 T2 hrow hfr
        have HROW := Lib.hid hrow
        have HF2 := Lib.hid ((Fr.alloc HF1.out.dom (.cells #[.slice A1 l.length c1] 34)).trans hfr)
        clear hrow hfr))
      go_roundw
      case rel =>
        refine ⟨n + 1, by omega, by go_num, T2, vs ++ [.slice A1 l.length c1], HROW, Lib.hid (fun i l' hil hl' => ?_), Lib.hid ((HFr.out.trans (HF1.out.mono (fun _ h => h.elim))).trans (HF2.out.mono (fun t h => by rw [h])))⟩
        have hvl : vs.length = n := by have := HRo.out.len; omega
        by_cases e : i < n
        · obtain ⟨u, hu, hr'⟩ := HIn.out i l' e hl'
          exact ⟨u, by rw [List.getElem?_append_left (by omega)]; exact hu, (hr'.fr HF1.out (fun x => x)).fr HF2.out (by simp)⟩
        · have : i = n := by omega
          subst this
          rw [HX.out] at hl'
          injection hl' with hl'
          subst hl'
          exact ⟨.slice A1 l.length c1, by rw [List.getElem?_append_right (by omega), hvl]; simp, HV1.out.fr HF2.out (by simp)⟩
      case measure => simp [intOf]; omega
    · have hnn : n = N.claims.length := by omega
      subst hnn
      go_wp2_with fail
      go_ret
      exact ⟨_, vs, rfl, Tr, HRo.out, fun i l hl => by obtain ⟨u, h1, h2⟩ := HIn.out i l (List.getElem?_eq_some_iff.1 hl).1 hl; exact ⟨u, h1, h2.rd (claims_one l)⟩, HFr.out⟩
theorem p_proposals (r : Nat) (L : LiveP tag B w p g k) (hr : B + 32 < r) (hk : k ≤ 150) :
    Calls Try.prog 48 #[.pointer (some ⟨p, 0, none⟩)] w fun e w' => ∃ v vs, e = .returned v ∧ ∃ tag' : Nat → Tag, Row tag' (r, 0, 0) 34 1 w' v g.np vs ∧ (∀ i : Nat, i < g.np → ∃ u, vs[i]? = some u ∧ Rd 2 w' u (g.props i).claims.length (claims (g.props i).claims)) ∧ Fr (fun t => t.1 = r) tag tag' w w' := by
  obtain ⟨N, rfl, h⟩ := L.net
  have hp := h.abs.p32
  have hnp := h.np
  refine (nproposals_ok r h.rep h.ok (by rw [h.abs.plen]; omega) (by omega) (by rw [h.abs.clen]; omega) (fun i l hl => ?_)).mono ?_
  · have hi : i < g.np := by rw [← h.abs.clen]; exact (List.getElem?_eq_some_iff.1 hl).1
    rw [h.abs.claims i hi] at hl
    injection hl with hl
    have := h.good.inv.len i
    rw [← hl]; omega
  · rintro e w' ⟨v, vs, he, T, h1, h2, h3⟩
    rw [h.abs.clen] at h1
    exact ⟨v, vs, he, T, h1, fun i hi => h2 i _ (h.abs.claims i hi), h3⟩
end
/-- What deliveries alone make of a negotiation. -/
theorem calmN_good {choices : List Int} {g : G} (I : NGood g) : ∀ k, NGood (calmN choices g k).1 := by
  intro k
  induction k with
  | zero => exact I
  | succ k ih =>
    show NGood (doL (calmN choices g k).1 _).1
    unfold doL
    split
    · exact ih
    · split
      · rename_i m hm; exact ih.deliver hm
      · exact ih
theorem still_of {g : G} (h : g.fl = []) : Still g.has := fun k p j ⟨m, hm, _⟩ => by rw [h] at hm; cases hm
end Go.Proofs.Ytclkokkppgchfaa

/- Where a claim, and where a message, stands in a list. -/
namespace Go.Proofs.Ytclkokkppgchfaa
open Go.RowKit Go.Ng Go.Proofs.YtclkokkppgchfaaW.PrintLast
set_option linter.unusedSimpArgs false
set_option linter.unusedVariables false
set_option maxRecDepth 100000 in
set_option maxHeartbeats 1600000 in
theorem indexClaim_ok {tag : Nat → Tag} {v : Value} {w : World} (l : List Clm) (a b : Int) (hr : Rd 2 w v l.length (claims l)) (hok : TagOk tag w) (hl : l.length ≤ 1000000) :
    Calls Try.prog 103 #[v, .agg #[.int .i64 a, .int .i64 b]] w fun e w' => ∃ i : Int, e = .returned (.int .i64 i) ∧ ((0 ≤ i ∧ (⟨a, b⟩ : Clm) ∈ l) ∨ (i = -1 ∧ (⟨a, b⟩ : Clm) ∉ l)) ∧ Fr (fun _ => False) tag tag w w' := by
  obtain ⟨A, cap, rfl, h1, h2⟩ := hr.slice
  unfold maxLen at h2
  have HR := Lib.hid hr
  clear hr
  have hFa : Fr (fun _ => False) tag tag w (w.alloc (.cells #[.int .i64 a, .int .i64 b] 69)) := Fr.alloc hok _
  have HFa := Lib.hid hFa
  clear hFa
  go_enter Try.func103, Try.ntmps103
  go_wp2_with fail
  go_loopw [8] (fun i wr => ∃ n : Nat, n ≤ l.length ∧ i = .int .i64 n ∧ Hid (∀ i < n, ∀ x, l[i]? = some x → x ≠ ⟨a, b⟩) ∧ Hid (Fr (fun _ => False) tag tag (w.alloc (.cells #[.int .i64 a, .int .i64 b] 69)) wr)) (fun i _ => l.length - (intOf i).toNat)
  case atStart => exact ⟨0, Nat.zero_le _, rfl, Lib.hid (fun i h => by omega), Lib.hid (Fr.refl HFa.out.dom)⟩
  case round =>
    obtain ⟨n, hn, rfl, HNO, HFr⟩ := hrel
    by_cases hlt : n < l.length
    · obtain ⟨⟨xi, xv⟩, hx⟩ : ∃ c, l[n]? = some c := ⟨_, List.getElem?_eq_getElem hlt⟩
      obtain ⟨ab, aoff, acap', he, _, _, hac⟩ := Rd.elem (enc := Clm.cells) HR.out (fun _ => rfl) (by decide) hx
      injection he with he _ he2
      subst he he2
      have a0 : wr.cell? ⟨ab, aoff + n * 2, none⟩ = some (.int .i64 xi) := HFr.out.cellF (HFa.out.cellF (hac 0 _ rfl))
      have a1 : wr.cell? ⟨ab, aoff + n * 2 + 1, none⟩ = some (.int .i64 xv) := HFr.out.cellF (HFa.out.cellF (hac 1 _ rfl))
      have b0 : wr.cell? ⟨w.heap.size, 0, none⟩ = some (.int .i64 a) := HFr.out.cellF (by go_simp)
      have b1 : wr.cell? ⟨w.heap.size, 1, none⟩ = some (.int .i64 b) := HFr.out.cellF (by go_simp)
      have i1 : (0 : Int) ≤ (n : Int) := by omega
      have i2 : (n : Int) < (l.length : Int) := by omega
      have hokr := HFr.out.dom
      have HX := Lib.hid hx
      clear hac hx
      by_cases e0 : a = xi
      · by_cases e1 : b = xv
        · subst e0 e1
          go_wp2_with fail
          go_quiet (fail)
          go_wp2_with fail
          go_ret
          exact ⟨n, rfl, .inl ⟨by omega, List.mem_of_getElem? HX.out⟩, HFa.out.trans (HFr.out.trans ((Fr.refl hokr).dN _))⟩
        · have q0 : (a == xi) = true := by simpa using e0
          have q1 : (b == xv) = false := by simpa using e1
          have HE := Lib.hid e1
          clear e0 e1
          go_wp2_with fail
          go_quiet (fail)
          go_wp2_with fail
          go_roundw
          case rel => exact ⟨n + 1, by omega, by go_num, Lib.hid (fun i hi x hx e => by
            rcases Nat.lt_succ_iff_lt_or_eq.1 hi with h | h
            · exact HNO.out i h x hx e
            · subst h; rw [HX.out] at hx; injection hx with hx; rw [← hx] at e; injection e with e1 e2; exact HE.out e2.symm), Lib.hid (HFr.out.trans ((Fr.refl hokr).dN _))⟩
          case measure => simp [intOf]; omega
      · have q0 : (a == xi) = false := by simpa using e0
        have HE := Lib.hid e0
        clear e0
        go_wp2_with fail
        go_quiet (fail)
        go_wp2_with fail
        go_roundw
        case rel => exact ⟨n + 1, by omega, by go_num, Lib.hid (fun i hi x hx e => by
          rcases Nat.lt_succ_iff_lt_or_eq.1 hi with h | h
          · exact HNO.out i h x hx e
          · subst h; rw [HX.out] at hx; injection hx with hx; rw [← hx] at e; injection e with e1 e2; exact HE.out e1.symm), Lib.hid (HFr.out.trans ((Fr.refl hokr).dN _))⟩
        case measure => simp [intOf]; omega
    · have hnn : n = l.length := by omega
      subst hnn
      go_wp2_with fail
      go_ret
      refine ⟨-1, rfl, .inr ⟨rfl, fun h => ?_⟩, HFa.out.trans HFr.out⟩
      obtain ⟨i, hi⟩ := List.getElem?_of_mem h
      exact HNO.out i (List.getElem?_eq_some_iff.1 hi).1 _ hi rfl
set_option maxRecDepth 100000 in
set_option maxHeartbeats 1600000 in
theorem hasClaim_ok {tag : Nat → Tag} {v : Value} {w : World} (l : List Clm) (a b : Int) (hr : Rd 2 w v l.length (claims l)) (hok : TagOk tag w) (hl : l.length ≤ 1000000) :
    Calls Try.prog 59 #[v, .agg #[.int .i64 a, .int .i64 b]] w fun e w' => e = .returned (.bool (decide ((⟨a, b⟩ : Clm) ∈ l))) ∧ Fr (fun _ => False) tag tag w w' := by
  obtain ⟨A, cap, rfl, h1, h2⟩ := hr.slice
  have HR := Lib.hid hr
  clear hr
  have hFa : Fr (fun _ => False) tag tag w (w.alloc (.cells #[.int .i64 a, .int .i64 b] 69)) := Fr.alloc hok _
  have HFa := Lib.hid hFa
  clear hFa
  go_enter Try.func59, Try.ntmps59
  go_wp2_with (
    go_at_call 103
    refine (indexClaim_ok l a b (HR.out.frF HFa.out) HFa.out.dom hl).mono ?_
    rintro e w1 ⟨i, rfl, hi, hF1⟩
    have HI : Hid (decide (0 ≤ i) = decide ((⟨a, b⟩ : Clm) ∈ l)) := Lib.hid (by
      rcases hi with ⟨h1, h2⟩ | ⟨h1, h2⟩
      · rw [decide_eq_true h1, decide_eq_true h2]
      · rw [decide_eq_false (by omega), decide_eq_false h2])
    have HF1 := Lib.hid hF1
    clear hi hF1)
  go_ret
  exact ⟨by rw [← HI.out]; rfl, HFa.out.trans HF1.out⟩
set_option maxRecDepth 100000 in
set_option maxHeartbeats 3200000 in
theorem indexPost_ok {tag : Nat → Tag} {v : Value} {w : World} (l : List Post) (c : Post) (hr : Rd 6 w v l.length (posts l)) (hok : TagOk tag w) (hl : l.length ≤ 1000000) (hc : c ∈ l) :
    Calls Try.prog 104 #[v, .agg #[.int .i64 c.kind, .int .i64 c.src, .int .i64 c.dst, .int .i64 c.prop, .int .i64 c.item, .int .i64 c.version]] w fun e w' => ∃ i : Nat, e = .returned (.int .i64 i) ∧ l[i]? = some c ∧ Fr (fun _ => False) tag tag w w' := by
  obtain ⟨A, cap, rfl, h1, h2⟩ := hr.slice
  unfold maxLen at h2
  have HR := Lib.hid hr
  have HC := Lib.hid hc
  clear hr hc
  obtain ⟨a0, a1, a2, a3, a4, a5⟩ := c
  have hFa : Fr (fun _ => False) tag tag w (w.alloc (.cells #[.int .i64 a0, .int .i64 a1, .int .i64 a2, .int .i64 a3, .int .i64 a4, .int .i64 a5] 49)) := Fr.alloc hok _
  have HFa := Lib.hid hFa
  clear hFa
  go_enter Try.func104, Try.ntmps104
  go_wp2_with fail
  go_loopw [8] (fun i wr => ∃ n : Nat, n ≤ l.length ∧ i = .int .i64 n ∧ Hid (∀ i < n, ∀ x, l[i]? = some x → x ≠ ⟨a0, a1, a2, a3, a4, a5⟩) ∧ Hid (Fr (fun _ => False) tag tag (w.alloc (.cells #[.int .i64 a0, .int .i64 a1, .int .i64 a2, .int .i64 a3, .int .i64 a4, .int .i64 a5] 49)) wr)) (fun i _ => l.length - (intOf i).toNat)
  case atStart => exact ⟨0, Nat.zero_le _, rfl, Lib.hid (fun i h => by omega), Lib.hid (Fr.refl HFa.out.dom)⟩
  case round =>
    obtain ⟨n, hn, rfl, HNO, HFr⟩ := hrel
    by_cases hlt : n < l.length
    · obtain ⟨⟨x0, x1, x2, x3, x4, x5⟩, hx⟩ : ∃ c, l[n]? = some c := ⟨_, List.getElem?_eq_getElem hlt⟩
      obtain ⟨ab, aoff, acap', he, _, _, hac⟩ := Rd.elem (enc := Post.cells) HR.out (fun _ => rfl) (by decide) hx
      injection he with he _ he2
      subst he he2
      have c0 : wr.cell? ⟨ab, aoff + n * 6, none⟩ = some (.int .i64 x0) := HFr.out.cellF (HFa.out.cellF (hac 0 _ rfl))
      have c1 : wr.cell? ⟨ab, aoff + n * 6 + 1, none⟩ = some (.int .i64 x1) := HFr.out.cellF (HFa.out.cellF (hac 1 _ rfl))
      have c2 : wr.cell? ⟨ab, aoff + n * 6 + 2, none⟩ = some (.int .i64 x2) := HFr.out.cellF (HFa.out.cellF (hac 2 _ rfl))
      have c3 : wr.cell? ⟨ab, aoff + n * 6 + 3, none⟩ = some (.int .i64 x3) := HFr.out.cellF (HFa.out.cellF (hac 3 _ rfl))
      have c4 : wr.cell? ⟨ab, aoff + n * 6 + 4, none⟩ = some (.int .i64 x4) := HFr.out.cellF (HFa.out.cellF (hac 4 _ rfl))
      have c5 : wr.cell? ⟨ab, aoff + n * 6 + 5, none⟩ = some (.int .i64 x5) := HFr.out.cellF (HFa.out.cellF (hac 5 _ rfl))
      have b0 : wr.cell? ⟨w.heap.size, 0, none⟩ = some (.int .i64 a0) := HFr.out.cellF (by go_simp)
      have b1 : wr.cell? ⟨w.heap.size, 1, none⟩ = some (.int .i64 a1) := HFr.out.cellF (by go_simp)
      have b2 : wr.cell? ⟨w.heap.size, 2, none⟩ = some (.int .i64 a2) := HFr.out.cellF (by go_simp)
      have b3 : wr.cell? ⟨w.heap.size, 3, none⟩ = some (.int .i64 a3) := HFr.out.cellF (by go_simp)
      have b4 : wr.cell? ⟨w.heap.size, 4, none⟩ = some (.int .i64 a4) := HFr.out.cellF (by go_simp)
      have b5 : wr.cell? ⟨w.heap.size, 5, none⟩ = some (.int .i64 a5) := HFr.out.cellF (by go_simp)
      have i1 : (0 : Int) ≤ (n : Int) := by omega
      have i2 : (n : Int) < (l.length : Int) := by omega
      have hokr := HFr.out.dom
      have HX := Lib.hid hx
      clear hac hx
      by_cases e : a0 = x0 ∧ a1 = x1 ∧ a2 = x2 ∧ a3 = x3 ∧ a4 = x4 ∧ a5 = x5
      · obtain ⟨e0, e1, e2, e3, e4, e5⟩ := e
        subst e0 e1 e2 e3 e4 e5
        go_wp2_with fail
        go_quiet (fail)
        go_wp2_with fail
        go_ret
        exact ⟨n, rfl, HX.out, HFa.out.trans (HFr.out.trans ((Fr.refl hokr).dN _))⟩
      · have q : (a0 == x0) = false ∨ ((a0 == x0) = true ∧ (a1 == x1) = false) ∨ ((a0 == x0) = true ∧ (a1 == x1) = true ∧ (a2 == x2) = false) ∨ ((a0 == x0) = true ∧ (a1 == x1) = true ∧ (a2 == x2) = true ∧ (a3 == x3) = false) ∨ ((a0 == x0) = true ∧ (a1 == x1) = true ∧ (a2 == x2) = true ∧ (a3 == x3) = true ∧ (a4 == x4) = false) ∨ ((a0 == x0) = true ∧ (a1 == x1) = true ∧ (a2 == x2) = true ∧ (a3 == x3) = true ∧ (a4 == x4) = true ∧ (a5 == x5) = false) := by
          simp only [beq_iff_eq, beq_eq_false_iff_ne]
          by_cases e0 : a0 = x0 <;> by_cases e1 : a1 = x1 <;> by_cases e2 : a2 = x2 <;> by_cases e3 : a3 = x3 <;> by_cases e4 : a4 = x4 <;> simp_all
        have HE := Lib.hid e
        clear e
        rcases q with q0 | ⟨q0, q1⟩ | ⟨q0, q1, q2⟩ | ⟨q0, q1, q2, q3⟩ | ⟨q0, q1, q2, q3, q4⟩ | ⟨q0, q1, q2, q3, q4, q5⟩
        all_goals
          go_wp2_with fail
          go_quiet (fail)
          go_wp2_with fail
          go_roundw
          case rel => exact ⟨n + 1, by omega, by go_num, Lib.hid (fun i hi x hx e => by
            rcases Nat.lt_succ_iff_lt_or_eq.1 hi with h | h
            · exact HNO.out i h x hx e
            · subst h; rw [HX.out] at hx; injection hx with hx; rw [← hx] at e; injection e with e0 e1 e2 e3 e4 e5; exact HE.out ⟨e0.symm, e1.symm, e2.symm, e3.symm, e4.symm, e5.symm⟩), Lib.hid (HFr.out.trans ((Fr.refl hokr).dN _))⟩
          case measure => simp [intOf]; omega
    · have hnn : n = l.length := by omega
      subst hnn
      obtain ⟨i, hi⟩ := List.getElem?_of_mem HC.out
      exact absurd rfl (HNO.out i (List.getElem?_eq_some_iff.1 hi).1 _ hi)
end Go.Proofs.Ytclkokkppgchfaa

/- A message delivered twice; nets that have come to the same. -/
namespace Go.Proofs.Ytclkokkppgchfaa
open Go.RowKit Go.Ng Go.Proofs.YtclkokkppgchfaaW.PrintLast
set_option linter.unusedSimpArgs false
set_option linter.unusedVariables false
section
variable {tag : Nat → Tag} {w : World} {B p k : Nat} {a : G}
theorem LiveP.less {k' : Nat} (L : LiveP tag B w p a k') (h1 : a.np ≤ k) (h2 : W1.all a ≤ 65 * k) : LiveP tag B w p a k := by
  obtain ⟨N, hp, h⟩ := L.net
  exact ⟨N, hp, h.rep, h.abs, h.good, h1, h2, h.ok⟩
theorem LiveP.wt (L : LiveP tag B w p a k) : W1.all a ≤ 65 * k := by obtain ⟨N, _, h⟩ := L.net; exact h.wt
theorem doB_some {g : G} {i : Nat} {x : Post} (h : g.fl[i]? = some x) : doB g i = ({ g with fl := g.fl ++ [x] }, 0, [], 0) := by
  have hi := (List.getElem?_eq_some_iff.1 h).1
  rw [doB, if_neg (by omega), Int.toNat_natCast, h]
theorem doL_at {g : G} {i : Nat} {x : Post} (h : g.fl[i]? = some x) : doL g i = (g.deliverG i x, 0, (g.takeG x).2.2, 0) := by
  have hi := (List.getElem?_eq_some_iff.1 h).1
  rw [doL, if_neg (by omega), Int.toNat_natCast, h]
theorem doubled_mem {a : G} {i : Nat} {x : Post} (h : a.fl[i]? = some x) : x ∈ (({ a with fl := a.fl ++ [x] } : G).deliverG i x).fl := by
  have hi := (List.getElem?_eq_some_iff.1 h).1
  refine List.mem_append.2 (.inl ?_)
  rw [List.mem_eraseIdx_iff_getElem?]
  exact ⟨a.fl.length, by omega, by simp [List.getElem?_append_right]⟩
set_option pp.deepTerms true
set_option pp.maxSteps 1000000
set_option maxRecDepth 100000 in
set_option maxHeartbeats 6400000 in
theorem twice_ok (L : LiveP tag B w p a k) (hk : k < 150) (x : Post) (hx : x ∈ a.fl) :
    Calls Try.prog 60 #[.pointer (some ⟨p, 0, none⟩), .agg #[.int .i64 x.kind, .int .i64 x.src, .int .i64 x.dst, .int .i64 x.prop, .int .i64 x.item, .int .i64 x.version]] w fun e w' => e = .returned (.bool true) ∧
      ∃ (tag' : Nat → Tag) (a' : G), (∀ (b : G) (pk : Nat), SameG a b → b.fl[pk]? = some x → SameG a' (b.deliverG pk x)) ∧ LiveP tag' B w' p a' k ∧ Fr (fun t => B ≤ t.1 ∧ t.1 ≤ B + 32) tag tag' w w' := by
  have HX := Lib.hid hx
  have HL := Lib.hid L
  have hok := L.ok
  have hB0 := L.b0
  obtain ⟨x0, x1, x2, x3, x4, x5⟩ := x
  have hFa : Fr (fun _ => False) tag tag w (w.alloc (.cells #[.int .i64 x0, .int .i64 x1, .int .i64 x2, .int .i64 x3, .int .i64 x4, .int .i64 x5] 49)) := Fr.alloc hok _
  have hFd : Fr (fun _ => False) tag tag w (w.alloc (.cells #[.int .i64 x0, .int .i64 x1, .int .i64 x2, .int .i64 x3, .int .i64 x4, .int .i64 x5] 49)).drew := hFa.dr
  obtain ⟨bx, hbx⟩ : ∃ bx, bx = w.heap.size := ⟨_, rfl⟩
  obtain ⟨w1, hw1⟩ : ∃ w1, w1 = w.alloc (.cells #[.int .i64 x0, .int .i64 x1, .int .i64 x2, .int .i64 x3, .int .i64 x4, .int .i64 x5] 49) := ⟨_, rfl⟩
  rw [← hw1] at hFa hFd
  have s0 : w1.drew.cell? ⟨bx, 0, none⟩ = some (.int .i64 x0) := by rw [hw1, hbx]; go_simp
  have s1 : w1.drew.cell? ⟨bx, 1, none⟩ = some (.int .i64 x1) := by rw [hw1, hbx]; go_simp
  have s2 : w1.drew.cell? ⟨bx, 2, none⟩ = some (.int .i64 x2) := by rw [hw1, hbx]; go_simp
  have s3 : w1.drew.cell? ⟨bx, 3, none⟩ = some (.int .i64 x3) := by rw [hw1, hbx]; go_simp
  have s4 : w1.drew.cell? ⟨bx, 4, none⟩ = some (.int .i64 x4) := by rw [hw1, hbx]; go_simp
  have s5 : w1.drew.cell? ⟨bx, 5, none⟩ = some (.int .i64 x5) := by rw [hw1, hbx]; go_simp
  have HS := Lib.hid (And.intro s0 (And.intro s1 (And.intro s2 (And.intro s3 (And.intro s4 s5)))))
  have hbt : (tag bx).1 = 0 := by rw [hbx]; exact hok.new
  have HBT := Lib.hid hbt
  have HFd := Lib.hid hFd
  have hfl := L.fl (by omega)
  clear hFa hFd hx L s0 s1 s2 s3 s4 s5 hbt
  go_enter Try.func60, Try.ntmps60
  go_upto_region 1 with fail
  rw [← hw1, ← hbx]
  clear hw1 hbx
  refine start_ (n := 5) (S := fun w' => w'.cell? ⟨bx, 0, none⟩ = some (.int .i64 x0) ∧ w'.cell? ⟨bx, 1, none⟩ = some (.int .i64 x1) ∧ w'.cell? ⟨bx, 2, none⟩ = some (.int .i64 x2) ∧ w'.cell? ⟨bx, 3, none⟩ = some (.int .i64 x3) ∧ w'.cell? ⟨bx, 4, none⟩ = some (.int .i64 x4) ∧ w'.cell? ⟨bx, 5, none⟩ = some (.int .i64 x5)) (ds := [3]) #[false, false, false, false, false] (by kernel_rfl) rfl rfl ⟨HS.out.1, HS.out.2.1, HS.out.2.2.1, HS.out.2.2.2.1, HS.out.2.2.2.2.1, HS.out.2.2.2.2.2⟩ (fun hHeld => ?_)
  refine pure_ (i := 0) (N := some 10) (v := ?_) (a' := ?_) #[true, false, false, false, false] rfl rfl (by kernel_rfl) (fun _ _ _ h => h) (Or.inl ⟨by rfl, ?_⟩) ?_ ?_
  rotate_left
  · intro w'
    go_simp
    with_reducible rfl
  rotate_left
  · simp only [Act.put, List.setIfInBounds_toArray, List.set_cons_zero, List.set_cons_succ, i64_w, i32_w]
    rfl
  refine take_ (i := 2) (N := some 12) (v := ?_) (a' := ?_) #[true, false, true, false, false] rfl rfl (by kernel_rfl) (fun _ _ _ h => h) (Or.inl ⟨by rfl, ?_⟩) hHeld ?_ ?_
  rotate_left
  · rintro w' ⟨s0, s1, s2, s3, s4, s5⟩
    go_simp
    with_reducible rfl
  rotate_left
  · simp only [Act.put, List.setIfInBounds_toArray, List.set_cons_zero, List.set_cons_succ, i64_w, i32_w]
    rfl
  refine one_ (i := 1) (N := some 11) #[true, true, true, false, false] rfl rfl (by kernel_rfl) (by decide) (fun K hK => ?_)
  refine goes_ Try.func42 (by kernel_rfl) rfl #[.pointer (some ⟨p, 0, none⟩)] (by rfl) rfl rfl (by simp only [List.map_toArray, List.map_cons, List.map_nil]; rfl) ?_
  refine (p_flight (300, 0, 0) (HL.out.frF HFd.out) (by omega)).mono ?_
  rintro e w2 ⟨v2, rfl, T2, hrow, hF2⟩
  obtain ⟨A2, c2, rfl, _, _⟩ := hrow.form
  have HF2 := Lib.hid (HFd.out.trans hF2)
  have HFx := Lib.hid hF2
  have HR2 := Lib.hid (hrow.rd (posts_one' _))
  clear hrow hF2
  refine ⟨_, rfl, ?_⟩
  refine hK.out _ _ ⟨HFx.out.cellF HS.out.1, HFx.out.cellF HS.out.2.1, HFx.out.cellF HS.out.2.2.1, HFx.out.cellF HS.out.2.2.2.1, HFx.out.cellF HS.out.2.2.2.2.1, HFx.out.cellF HS.out.2.2.2.2.2⟩ (fun hHeld => ?_)
  clear hK K
  refine norm_ (a' := ?_) ?_ ?_
  rotate_left
  · show Act.put _ (some 11) _ = _
    simp only [Act.put, List.setIfInBounds_toArray, List.set_cons_zero, List.set_cons_succ, i64_w, i32_w]
    rfl
  refine last_ (i := 3) (N := some 13) #[true, true, true, true, false] rfl rfl (by kernel_rfl) (by decide) (fun K hK => ?_)
  refine goes_ Try.func104 (by kernel_rfl) rfl #[.slice A2 a.fl.length c2, .agg #[.int .i64 x0, .int .i64 x1, .int .i64 x2, .int .i64 x3, .int .i64 x4, .int .i64 x5]] (by rfl) rfl rfl (by simp only [List.map_toArray, List.map_cons, List.map_nil]; rfl) ?_
  refine (indexPost_ok a.fl ⟨x0, x1, x2, x3, x4, x5⟩ HR2.out HF2.out.dom (by omega) HX.out).mono ?_
  rintro e w3 ⟨i, rfl, hi, hF3⟩
  have HI := Lib.hid hi
  have HF3 := Lib.hid (HF2.out.trans hF3)
  have HF23 := Lib.hid hF3
  clear hF3 hi
  refine ⟨_, rfl, ?_⟩
  refine hK.out _ _ ?_
  clear hK K
  refine norm_ (a' := ?_) ?_ ?_
  rotate_left
  · show Act.put _ (some 13) _ = _
    simp only [Act.put, List.setIfInBounds_toArray, List.set_cons_zero, List.set_cons_succ, i64_w, i32_w]
    rfl
  refine pure_ (i := 4) (N := some 5) (v := ?_) (a' := ?_) #[true, true, true, true, true] rfl rfl (by kernel_rfl) (fun _ _ _ h => h) (Or.inl ⟨by rfl, ?_⟩) ?_ ?_
  rotate_left
  · intro w'
    go_simp
    with_reducible rfl
  rotate_left
  · simp only [Act.put, List.setIfInBounds_toArray, List.set_cons_zero, List.set_cons_succ, i64_w, i32_w]
    rfl
  refine done_ (by kernel_rfl) ?_
  clear hHeld
  have hbl : bx < w1.drew.heap.size := World.block_lt_of_cell? _ _ HS.out.1
  have hbt2 : (T2 bx).1 = 0 := by rw [HFx.out.same bx hbl]; exact HBT.out
  have HBT2 := Lib.hid hbt2
  have hF23 : Fr (fun _ => False) T2 T2 w2 w3 := HF23.out
  have HS3 := Lib.hid (And.intro (hF23.cellF (HFx.out.cellF HS.out.1)) (And.intro (hF23.cellF (HFx.out.cellF HS.out.2.1)) (And.intro (hF23.cellF (HFx.out.cellF HS.out.2.2.1)) (And.intro (hF23.cellF (HFx.out.cellF HS.out.2.2.2.1)) (And.intro (hF23.cellF (HFx.out.cellF HS.out.2.2.2.2.1)) (hF23.cellF (HFx.out.cellF HS.out.2.2.2.2.2)))))))
  have HI1 : Hid (({ a with fl := a.fl ++ [⟨x0, x1, x2, x3, x4, x5⟩] } : G).fl[i]? = some ⟨x0, x1, x2, x3, x4, x5⟩) := Lib.hid (by
    show (a.fl ++ [_])[i]? = _
    rw [List.getElem?_append_left (List.getElem?_eq_some_iff.1 HI.out).1]; exact HI.out)
  have HX2 := Lib.hid (doubled_mem HI.out)
  have j1 : decide ((i : Int) < 0) = false := decide_eq_false (by omega)
  have j2 : (0 : Int) ≤ (i : Int) := by omega
  clear hbl hbt2 hF23
  obtain ⟨g1, hg1⟩ : ∃ g1 : G, g1 = { a with fl := a.fl ++ [⟨x0, x1, x2, x3, x4, x5⟩] } := ⟨_, rfl⟩
  have HG1 := Lib.hid hg1
  rw [← hg1] at HI1 HX2
  obtain ⟨g2, hg2⟩ : ∃ g2 : G, g2 = g1.deliverG i ⟨x0, x1, x2, x3, x4, x5⟩ := ⟨_, rfl⟩
  have HG2 := Lib.hid hg2
  rw [← hg2] at HX2
  clear hg1 hg2
  go_upto_region 7 with (first
  | (
    go_at_call 93
    refine (p_double (n := (i : Int)) (HL.out.frF HF3.out) hk).mono ?_
    rw [doB_some HI.out]
    rintro e w4 ⟨rfl, hD⟩
    obtain ⟨T4, hL4, _, hF4⟩ := hD.did
    simp only [← HG1.out] at hL4
    have HL4 := Lib.hid hL4
    have HF4 := Lib.hid hF4
    clear hD hL4 hF4)
  | (
    go_at_call 61
    refine (p_deliver (n := (i : Int)) HL4.out (by omega)).mono ?_
    rw [doL_at HI1.out]
    rintro e w5 ⟨cv, rfl, hD⟩
    obtain ⟨T5, hL5, hcv, hF5⟩ := hD.did
    obtain ⟨A5, c5, rfl, _, _⟩ := hcv.slice
    simp only [← HG2.out] at hL5
    have HL5 := Lib.hid hL5
    have HF5 := Lib.hid (HF4.out.trans hF5)
    clear hD hL5 hF5 hcv))
  have hn : ¬ (B ≤ (T2 bx).1 ∧ (T2 bx).1 ≤ B + 32) := by rw [HBT2.out]; omega
  have s0 := HF5.out.cell HS3.out.1 hn
  have s1 := HF5.out.cell HS3.out.2.1 hn
  have s2 := HF5.out.cell HS3.out.2.2.1 hn
  have s3 := HF5.out.cell HS3.out.2.2.2.1 hn
  have s4 := HF5.out.cell HS3.out.2.2.2.2.1 hn
  have s5 := HF5.out.cell HS3.out.2.2.2.2.2 hn
  have hFd5 : Fr (fun _ => False) T5 T5 w5 w5.drew := (Fr.refl HF5.out.dom).dr
  have HFd5 := Lib.hid hFd5
  have HS5 := Lib.hid (And.intro (hFd5.cellF s0) (And.intro (hFd5.cellF s1) (And.intro (hFd5.cellF s2) (And.intro (hFd5.cellF s3) (And.intro (hFd5.cellF s4) (hFd5.cellF s5))))))
  have hfl2 := HL5.out.fl (by omega)
  clear hn s0 s1 s2 s3 s4 s5 hFd5
  refine start_ (n := 5) (S := fun w' => w'.cell? ⟨bx, 0, none⟩ = some (.int .i64 x0) ∧ w'.cell? ⟨bx, 1, none⟩ = some (.int .i64 x1) ∧ w'.cell? ⟨bx, 2, none⟩ = some (.int .i64 x2) ∧ w'.cell? ⟨bx, 3, none⟩ = some (.int .i64 x3) ∧ w'.cell? ⟨bx, 4, none⟩ = some (.int .i64 x4) ∧ w'.cell? ⟨bx, 5, none⟩ = some (.int .i64 x5)) (ds := [3]) #[false, false, false, false, false] (by kernel_rfl) rfl rfl ⟨HS5.out.1, HS5.out.2.1, HS5.out.2.2.1, HS5.out.2.2.2.1, HS5.out.2.2.2.2.1, HS5.out.2.2.2.2.2⟩ (fun hHeld => ?_)
  refine pure_ (i := 0) (N := some 30) (v := ?_) (a' := ?_) #[true, false, false, false, false] rfl rfl (by kernel_rfl) (fun _ _ _ h => h) (Or.inl ⟨by rfl, ?_⟩) ?_ ?_
  rotate_left
  · intro w'
    go_simp
    with_reducible rfl
  rotate_left
  · simp only [Act.put, List.setIfInBounds_toArray, List.set_cons_zero, List.set_cons_succ, i64_w, i32_w]
    rfl
  refine take_ (i := 2) (N := some 32) (v := ?_) (a' := ?_) #[true, false, true, false, false] rfl rfl (by kernel_rfl) (fun _ _ _ h => h) (Or.inl ⟨by rfl, ?_⟩) hHeld ?_ ?_
  rotate_left
  · rintro w' ⟨s0, s1, s2, s3, s4, s5⟩
    go_simp
    with_reducible rfl
  rotate_left
  · simp only [Act.put, List.setIfInBounds_toArray, List.set_cons_zero, List.set_cons_succ, i64_w, i32_w]
    rfl
  refine one_ (i := 1) (N := some 31) #[true, true, true, false, false] rfl rfl (by kernel_rfl) (by decide) (fun K hK => ?_)
  refine goes_ Try.func42 (by kernel_rfl) rfl #[.pointer (some ⟨p, 0, none⟩)] (by rfl) rfl rfl (by simp only [List.map_toArray, List.map_cons, List.map_nil]; rfl) ?_
  refine (p_flight (301, 0, 0) (HL5.out.frF HFd5.out) (by omega)).mono ?_
  rintro e w6 ⟨v6, rfl, T6, hrow, hF6⟩
  obtain ⟨A6, c6, rfl, _, _⟩ := hrow.form
  have HF6 := Lib.hid (HFd5.out.trans hF6)
  have HFy := Lib.hid hF6
  have HR6 := Lib.hid (hrow.rd (posts_one' _))
  clear hrow hF6
  refine ⟨_, rfl, ?_⟩
  refine hK.out _ _ ⟨HFy.out.cellF HS5.out.1, HFy.out.cellF HS5.out.2.1, HFy.out.cellF HS5.out.2.2.1, HFy.out.cellF HS5.out.2.2.2.1, HFy.out.cellF HS5.out.2.2.2.2.1, HFy.out.cellF HS5.out.2.2.2.2.2⟩ (fun hHeld => ?_)
  clear hK K
  refine norm_ (a' := ?_) ?_ ?_
  rotate_left
  · show Act.put _ (some 31) _ = _
    simp only [Act.put, List.setIfInBounds_toArray, List.set_cons_zero, List.set_cons_succ, i64_w, i32_w]
    rfl
  refine last_ (i := 3) (N := some 33) #[true, true, true, true, false] rfl rfl (by kernel_rfl) (by decide) (fun K hK => ?_)
  refine goes_ Try.func104 (by kernel_rfl) rfl #[.slice A6 g2.fl.length c6, .agg #[.int .i64 x0, .int .i64 x1, .int .i64 x2, .int .i64 x3, .int .i64 x4, .int .i64 x5]] (by rfl) rfl rfl (by simp only [List.map_toArray, List.map_cons, List.map_nil]; rfl) ?_
  refine (indexPost_ok g2.fl ⟨x0, x1, x2, x3, x4, x5⟩ HR6.out HF6.out.dom (by omega) HX2.out).mono ?_
  rintro e w7 ⟨i2, rfl, hi, hF7⟩
  have HI2 := Lib.hid hi
  have HF7 := Lib.hid (HF6.out.trans hF7)
  clear hF7 hi
  refine ⟨_, rfl, ?_⟩
  refine hK.out _ _ ?_
  clear hK K
  refine norm_ (a' := ?_) ?_ ?_
  rotate_left
  · show Act.put _ (some 33) _ = _
    simp only [Act.put, List.setIfInBounds_toArray, List.set_cons_zero, List.set_cons_succ, i64_w, i32_w]
    rfl
  refine pure_ (i := 4) (N := some 5) (v := ?_) (a' := ?_) #[true, true, true, true, true] rfl rfl (by kernel_rfl) (fun _ _ _ h => h) (Or.inl ⟨by rfl, ?_⟩) ?_ ?_
  rotate_left
  · intro w'
    go_simp
    with_reducible rfl
  rotate_left
  · simp only [Act.put, List.setIfInBounds_toArray, List.set_cons_zero, List.set_cons_succ, i64_w, i32_w]
    rfl
  refine done_ (by kernel_rfl) ?_
  clear hHeld
  have j3 : decide ((i2 : Int) < 0) = false := decide_eq_false (by omega)
  have j4 : (0 : Int) ≤ (i2 : Int) := by omega
  go_wp2_with (
    go_at_call 61
    refine (p_deliver (n := (i2 : Int)) (HL5.out.frF HF7.out) (by omega)).mono ?_
    rw [doL_at HI2.out]
    rintro e w8 ⟨cv, rfl, hD⟩
    obtain ⟨T8, hL8, hcv, hF8⟩ := hD.did
    obtain ⟨A8, c8, rfl, _, _⟩ := hcv.slice
    have HL8 := Lib.hid hL8
    have HF8 := Lib.hid hF8
    clear hD hL8 hF8 hcv)
  go_ret
  have hS : ∀ (b : G) (pk : Nat), SameG a b → b.fl[pk]? = some ⟨x0, x1, x2, x3, x4, x5⟩ → SameG (g2.deliverG i2 ⟨x0, x1, x2, x3, x4, x5⟩) (b.deliverG pk ⟨x0, x1, x2, x3, x4, x5⟩) := fun b pk hs hb => by
    have h2 := HI2.out
    rw [HG2.out, HG1.out] at h2 ⊢
    exact hs.twice HL.out.good HI.out hb h2
  have hself := hS a i (SameG.rfl' a) HI.out
  have hL8 : LiveP T8 B w8 p (g2.deliverG i2 ⟨x0, x1, x2, x3, x4, x5⟩) (k + 1) := HL8.out
  refine ⟨rfl, T8, _, hS, hL8.less ?_ ?_, ?_⟩
  · rw [hself.np]
    show (a.takeG _).1.np ≤ k
    rw [(takeG_same (g := a) _).2.2.2.1]
    exact HL.out.np
  · rw [hself.wt]
    have h1 := wt_deliver W1_ok HL.out.good HI.out
    have h2 := HL.out.wt
    omega
  · exact ((HF3.out.mono (fun _ h => h.elim)).trans (HF5.out.trans ((HF7.out.mono (fun _ h => h.elim)).trans HF8.out)))
set_option maxRecDepth 100000 in
set_option maxHeartbeats 6400000 in
theorem alike_ok {pa pb : Nat} {b : G} (La : LiveP tag 100 w pa a k) (Lb : LiveP tag 200 w pb b k) (hk : k ≤ 150) (hS : SameG a b) :
    Calls Try.prog 62 #[.pointer (some ⟨pa, 0, none⟩), .pointer (some ⟨pb, 0, none⟩), .int .i64 (a.n : Int)] w fun e w' => e = .returned (.bool true) ∧ ∃ tag', Fr (fun t => 400 ≤ t.1 ∧ t.1 ≤ 402) tag tag' w w' := by
  have HLa := Lib.hid La
  have HLb := Lib.hid Lb
  have hok := La.ok
  have hdec := hS.dec
  have hit := hS.items
  have hpr := hS.props
  have hnp := hS.np
  have hn := hS.n
  have hdl := dec_len La.good
  have hnpk := La.np
  have hn64 := La.n64
  obtain ⟨ds, hds⟩ : ∃ x, x = a.dec := ⟨_, rfl⟩
  rw [← hds] at hdec hdl
  have HDA := Lib.hid hds
  have HDB := Lib.hid hdec
  have HIT := Lib.hid hit
  have HPR := Lib.hid hpr
  have HNP := Lib.hid hnp
  have HN := Lib.hid hn
  have hne : pa ≠ pb ∨ True := .inr trivial
  clear La Lb hS hds hdec hit hpr hnp hn hne
  go_enter Try.func62, Try.ntmps62
  go_wp2_with (first
  | (
    go_at_call_has 56 pa
    refine (p_decided (300, 0, 0) HLa.out hk).mono ?_
    rw [← HDA.out]
    rintro e w1 ⟨v1, rfl, T1, hrow, hF1⟩
    obtain ⟨A1, c1, rfl, _, _⟩ := hrow.form
    have HR1 := Lib.hid hrow
    have HF1 := Lib.hid hF1
    clear hrow hF1)
  | (
    go_at_call_has 56 pb
    refine (p_decided (301, 0, 0) (HLb.out.frF HF1.out) hk).mono ?_
    rw [← HDB.out]
    rintro e w2 ⟨v2, rfl, T2, hrow, hF2⟩
    obtain ⟨A2, c2, rfl, _, _⟩ := hrow.form
    have HR2 := Lib.hid hrow
    have HR12 := Lib.hid (HR1.out.fr hF2 (fun x => x))
    have HF2 := Lib.hid (HF1.out.trans hF2)
    clear hrow hF2)
  | (
    go_at_call 58
    refine (equalInts_ok ds (HR12.out.rd (ints_one _)) (HR2.out.rd (ints_one _)) HF2.out.dom (by omega)).mono ?_
    rintro e w3 ⟨rfl, hF3⟩
    have HF3 := Lib.hid (HF2.out.trans hF3)
    clear hF3))
  go_loopw [24] (fun i wr => ∃ n : Nat, n ≤ a.n ∧ i = .int .i64 n ∧ ∃ Tr : Nat → Tag, Hid (Fr (fun _ => False) tag Tr w wr)) (fun i _ => a.n - (intOf i).toNat)
  case atStart => exact ⟨0, Nat.zero_le _, rfl, T2, HF3⟩
  case round =>
    obtain ⟨n, hn, rfl, Tr, HFr⟩ := hrel
    by_cases hlt : n < a.n
    · have HJB : Hid (n < b.n) := Lib.hid (by rw [← HN.out]; exact hlt)
      have hhl : (a.items n).hist.length ≤ 150 := by have := hist_len HLa.out.good n; omega
      obtain ⟨hs, hhs⟩ : ∃ x, x = (a.items n).hist := ⟨_, rfl⟩
      have hhb : hs = (b.items n).hist := by rw [hhs, HIT.out]
      rw [← hhs] at hhl
      have HHA := Lib.hid hhs
      have HHB := Lib.hid hhb
      clear hhs hhb
      go_wp2_with (first
      | (
        go_at_call_has 49 pa
        refine (p_history (j := n) (300, 0, 0) (HLa.out.frF HFr.out) hlt hk).mono ?_
        rw [← HHA.out]
        rintro e w5 ⟨v5, rfl, T5, hrow, hF5⟩
        obtain ⟨A5, c5, rfl, _, _⟩ := hrow.form
        have HR5 := Lib.hid hrow
        have HF5 := Lib.hid (HFr.out.trans hF5)
        clear hrow hF5)
      | (
        go_at_call_has 49 pb
        refine (p_history (j := n) (301, 0, 0) (HLb.out.frF HF5.out) HJB.out hk).mono ?_
        rw [← HHB.out]
        rintro e w6 ⟨v6, rfl, T6, hrow, hF6⟩
        obtain ⟨A6, c6, rfl, _, _⟩ := hrow.form
        have HR6 := Lib.hid hrow
        have HR56 := Lib.hid (HR5.out.fr hF6 (fun x => x))
        have HF6 := Lib.hid (HF5.out.trans hF6)
        clear hrow hF6)
      | (
        go_at_call 58
        refine (equalInts_ok hs (HR56.out.rd (ints_one _)) (HR6.out.rd (ints_one _)) HF6.out.dom (by omega)).mono ?_
        rintro e w7 ⟨rfl, hF7⟩
        have HF7 := Lib.hid (HF6.out.trans hF7)
        clear hF7))
      go_roundw
      case rel => exact ⟨n + 1, by omega, by go_num, T6, HF7⟩
      case measure => simp [intOf]; omega
    · have hnn : n = a.n := by omega
      subst hnn
      go_wp2_with (
        go_at_call 48
        refine (p_proposals 400 (HLa.out.frF HFr.out) (by omega) hk).mono ?_
        rintro e w8 ⟨v8, vs, rfl, T8, hrow, _, hF8⟩
        obtain ⟨A8, c8, rfl, _, _⟩ := hrow.form
        have HF8 := Lib.hid ((HFr.out.mono (S' := fun t => 400 ≤ t.1 ∧ t.1 ≤ 402) (fun _ h => h.elim)).trans (hF8.mono (fun t h => by omega)))
        clear hrow hF8)
      go_loopw [55] (fun i wr => ∃ n : Nat, n ≤ a.np ∧ i = .int .i64 n ∧ Hid (Fr (fun _ => False) T8 T8 w8 wr)) (fun i _ => a.np - (intOf i).toNat)
      case atStart => exact ⟨0, Nat.zero_le _, rfl, Lib.hid (Fr.refl HF8.out.dom)⟩
      case round =>
        obtain ⟨n, hn, rfl, HFq⟩ := hrel
        have HFt := Lib.hid (HF8.out.trans (HFq.out.mono (fun _ h => h.elim)))
        by_cases hlt : n < a.np
        · have HJB : Hid (n < b.np) := Lib.hid (by rw [← HNP.out]; exact hlt)
          obtain ⟨st, hst⟩ : ∃ x, x = (a.props n).st := ⟨_, rfl⟩
          have hsb : st = (b.props n).st := by rw [hst, HPR.out]
          have HSA := Lib.hid hst
          have HSB := Lib.hid hsb
          clear hst hsb
          go_wp2_with (first
          | (
            go_at_call_has 38 pa
            refine (p_status (n := n) (HLa.out.fr HFt.out (fun t h => by omega)) hlt).mono ?_
            rw [← HSA.out]
            rintro e w9 ⟨rfl, hF9⟩
            have HF9 := Lib.hid (HFq.out.trans hF9)
            have HFt9 := Lib.hid (HFt.out.trans (hF9.mono (fun _ h => h.elim)))
            clear hF9)
          | (
            go_at_call_has 38 pb
            refine (p_status (n := n) (HLb.out.fr HFt9.out (fun t h => by omega)) HJB.out).mono ?_
            rw [← HSB.out]
            rintro e w10 ⟨rfl, hF10⟩
            have HF10 := Lib.hid (HF9.out.trans hF10)
            clear hF10))
          go_roundw
          case rel => exact ⟨n + 1, by omega, by go_num, HF10⟩
          case measure => simp [intOf]; omega
        · have hnn : n = a.np := by omega
          subst hnn
          have hqq : ((a.np : Int) == (b.np : Int)) = true := by rw [HNP.out]; simp
          go_wp2_with (first
          | (
            go_at_call_has 48 pa
            refine (p_proposals 401 (HLa.out.fr HFt.out (fun t h => by omega)) (by omega) hk).mono ?_
            rintro e w11 ⟨v11, vs, rfl, T11, hrow, _, hF11⟩
            obtain ⟨A11, c11, rfl, _, _⟩ := hrow.form
            have HF11 := Lib.hid (HFt.out.trans (hF11.mono (fun t h => by omega)))
            clear hrow hF11)
          | (
            go_at_call_has 48 pb
            refine (p_proposals 402 (HLb.out.fr HF11.out (fun t h => by omega)) (by omega) hk).mono ?_
            rintro e w12 ⟨v12, vs, rfl, T12, hrow, _, hF12⟩
            obtain ⟨A12, c12, rfl, _, _⟩ := hrow.form
            have HF12 := Lib.hid (HF11.out.trans (hF12.mono (fun t h => by omega)))
            clear hrow hF12))
          go_ret
          exact ⟨by simp [hqq], T12, HF12.out⟩
end
end Go.Proofs.Ytclkokkppgchfaa

/- Places of one's own beside a net: what they do is what the net does. -/
namespace Go.Proofs.Ytclkokkppgchfaa
open Go.RowKit Go.Ng Go.Proofs.YtclkokkppgchfaaW.PrintLast
set_option linter.unusedSimpArgs false
set_option linter.unusedVariables false
/-- Places of one's own, which have come as far as those of a net. -/
structure OwnP (tag : Nat → Tag) (w : World) (Ps : List PlaceM) (g : G) : Prop where
  rep : ∀ (i : Nat) P, Ps[i]? = some P → PRep tag (501 + i) w P
  abs : ∃ N : NetM, N.places = Ps ∧ Abs N g
section
variable {tag tag' : Nat → Tag} {w w' : World} {Ps : List PlaceM} {g : G} {S : Tag → Prop}
theorem OwnP.fr (h : OwnP tag w Ps g) (hf : Fr S tag tag' w w') (hS : ∀ t, S t → t.1 < 501 ∨ 533 < t.1) : OwnP tag' w' Ps g := by
  obtain ⟨N, h1, h2⟩ := h.abs
  refine ⟨fun i P hi => (h.rep i P hi).fr hf (fun r j hs => ?_), h.abs⟩
  have := hS _ hs
  have hl := (List.getElem?_eq_some_iff.1 hi).1
  have := h2.plen
  have := h2.p32
  rw [h1] at *
  simp only at *
  omega
theorem OwnP.frF (h : OwnP tag w Ps g) (hf : Fr (fun _ => False) tag tag' w w') : OwnP tag' w' Ps g := h.fr hf (fun _ h => h.elim)
theorem OwnP.len (h : OwnP tag w Ps g) : Ps.length = g.places := by obtain ⟨N, h1, h2⟩ := h.abs; rw [← h1]; exact h2.plen
/-- One place has gone on. -/
theorem OwnP.step {g' : G} {i : Nat} {P P' : PlaceM} (h : OwnP tag w Ps g) (hi : Ps[i]? = some P) (hf : Fr (fun t => t.1 = 501 + i) tag tag' w w') (hP : PRep tag' (501 + i) w' P') (N : NetM) (hN : N.places = Ps.set i P') (hA : Abs N g') : OwnP tag' w' (Ps.set i P') g' := by
  refine ⟨fun j Q hj => ?_, N, hN, hA⟩
  rw [List.getElem?_set] at hj
  split at hj
  · rename_i e
    subst e
    split at hj
    · injection hj with hj; subst hj; exact hP
    · cases hj
  · rename_i e
    exact (h.rep j Q hj).fr hf (fun r k hs => by simp only at hs; omega)
theorem takeN_fl (N : NetM) (l : List Post) (cs : List Came) : (takeN N l cs).flight = N.flight ++ l ∧ (takeN N l cs).places = N.places := by
  have : ∀ (cs : List Came) (M : NetM), (cs.foldl noteM M).flight = M.flight ∧ (cs.foldl noteM M).places = M.places := by
    intro cs
    induction cs with
    | nil => intro M; exact ⟨rfl, rfl⟩
    | cons c cs ih =>
      intro M
      rw [List.foldl_cons]
      obtain ⟨h1, h2⟩ := ih (noteM M c)
      rw [h1, h2]
      unfold noteM
      split
      · exact ⟨rfl, rfl⟩
      · split <;> exact ⟨rfl, rfl⟩
  exact this cs _
theorem own_propose {n : Nat} {P : PlaceM} {l : List Clm} {v : Value} {c : Clm} (h : OwnP tag w Ps g) (I : NGood g) (hnp : g.np ≤ 150) (hok : TagOk tag w) (hP : Ps[n]? = some P) (hr : RdX tag w v l) (hcl : claimedB g.n l = true) (hc : l[0]? = some c) :
    Calls Try.prog 20 #[.pointer (some ⟨P.ptr, 0, none⟩), .int .i64 (g.np : Int), v] w fun e w' => ∃ ov cv, e = .returned (.tuple #[ov, cv, .int .i64 0]) ∧
      ∃ (tag' : Nat → Tag) (Ps' : List PlaceM) (out : List Post), Row tag' (501 + n, 5, 0) 49 6 w' ov out.length (posts out) ∧ Row tag' (501 + n, 6, 0) 106 3 w' cv 0 [] ∧ (g.proposeG n l c).fl = g.fl ++ out ∧ out.length ≤ 1 ∧ OwnP tag' w' Ps' (g.proposeG n l c) ∧ Ps'.map placePtr = Ps.map placePtr ∧ Fr (fun t => 501 ≤ t.1 ∧ t.1 ≤ 533) tag tag' w w' := by
  obtain ⟨N, h1, A⟩ := h.abs
  have hp : N.places[n]? = some P := by rw [h1]; exact hP
  have hA := A.place n P hp
  have hl := claimed_of hcl
  have hn32 : n < 32 := by have := (List.getElem?_eq_some_iff.1 hP).1; have := h.len; have := A.p32; omega
  have hrd : Rd 2 w v l.length (claims l) := by
    rcases hr with ⟨h, _⟩ | ⟨h, _⟩
    · exact h
    · rw [h] at hc; cases hc
  have h0 := A.propose I 0 hp hl hc
  refine (propose_ok (g.np : Int) l (h.rep n P hP) hok hrd (by rw [hA.slen]; exact hcl) (by omega) (by omega) h0.2.2 (by have := hA.plen; omega) (by have := A.n64; rw [hA.slen]; omega) (by rw [hA.out]; simp)).mono ?_
  rintro e w' ⟨ov, cv, he, tag', xp, hro, hrc, hrep, hf⟩
  have hp' := A.propose I xp hp hl hc
  have hpl : (proposeN N n P l xp).places = Ps.set n { proposeM P g.np l xp with out := [], came := [] } := by
    unfold proposeN
    rw [(takeN_fl _ _ _).2, A.clen, h1]
  have hfl := hp'.1.fl
  unfold proposeN at hfl
  rw [(takeN_fl _ _ _).1, A.clen] at hfl
  simp only [A.fl] at hfl
  refine ⟨ov, cv, he, tag', Ps.set n { proposeM P g.np l xp with out := [], came := [] }, (proposeM P g.np l xp).out, hro, ?_, hfl.symm, by have := hp'.2.1; rw [A.clen] at this; exact this, h.step hP hf hrep _ hpl hp'.1, ?_, hf.mono (fun t h => by omega)⟩
  · rw [hA.came] at hrc; exact hrc
  · rw [List.map_set]
    apply List.ext_getElem?
    intro i
    rw [List.getElem?_set]
    split
    · rename_i e
      subst e
      rw [List.length_map, if_pos (List.getElem?_eq_some_iff.1 hP).1, List.getElem?_map, hP]
      simp only [Option.map_some, placePtr]
      rw [proposeM_eq hc]
    · rfl
theorem own_take {q i : Nat} {P : PlaceM} {m : Post} (h : OwnP tag w Ps g) (I : NGood g) (S : Small g) (hok : TagOk tag w) (hP : Ps[q]? = some P) (hi : g.fl[i]? = some m) (hd : m.dst = q) :
    Calls Try.prog 25 #[.pointer (some ⟨P.ptr, 0, none⟩), Post.val m] w fun e w' => ∃ ov cv, e = .returned (.tuple #[ov, cv, .int .i64 0]) ∧
      ∃ (tag' : Nat → Tag) (Ps' : List PlaceM) (out : List Post), Row tag' (501 + q, 5, 0) 49 6 w' ov out.length (posts out) ∧ Row tag' (501 + q, 6, 0) 106 3 w' cv (g.takeG m).2.2.length (cames (g.takeG m).2.2) ∧ (g.deliverG i m).fl = g.fl.eraseIdx i ++ out ∧ OwnP tag' w' Ps' (g.deliverG i m) ∧ Ps'.map placePtr = Ps.map placePtr ∧ Fr (fun t => 501 ≤ t.1 ∧ t.1 ≤ 533) tag tag' w w' := by
  obtain ⟨N, h1, A⟩ := h.abs
  have hp : N.places[q]? = some P := by rw [h1]; exact hP
  have hn32 : q < 32 := by have := (List.getElem?_eq_some_iff.1 hP).1; have := h.len; have := A.p32; omega
  have hm := List.mem_of_getElem? hi
  obtain ⟨hv, hpr, hit⟩ := A.valid I S hp hm hd
  have ht := (A.tame I S hp).1
  have hfi : N.flight[i]? = some m := by rw [A.fl]; exact hi
  obtain ⟨hA', hcame⟩ := A.deliver I hfi hd hp
  refine (take_ok m (h.rep q P hP) hok hv ht hpr hit).mono ?_
  rintro e w' ⟨ov, cv, he, tag', hro, hrc, hrep, hf⟩
  have hpl : (deliverN N i q P m).places = Ps.set q { takeM P m with out := [], came := [] } := by
    unfold deliverN
    rw [(takeN_fl _ _ _).2, h1]
  have hfl := hA'.fl
  unfold deliverN at hfl
  rw [(takeN_fl _ _ _).1] at hfl
  simp only [A.fl] at hfl
  refine ⟨ov, cv, he, tag', Ps.set q { takeM P m with out := [], came := [] }, (takeM P m).out, hro, by rw [← hcame]; exact hrc, hfl.symm, h.step hP hf hrep _ hpl hA', ?_, hf.mono (fun t h => by omega)⟩
  rw [List.map_set]
  apply List.ext_getElem?
  intro j
  rw [List.getElem?_set]
  split
  · rename_i e
    subst e
    rw [List.length_map, if_pos (List.getElem?_eq_some_iff.1 hP).1, List.getElem?_map, hP]
    simp only [Option.map_some, placePtr]
    rw [takeM_ptr]
  · rfl
theorem own_drop {n q : Nat} {P : PlaceM} (h : OwnP tag w Ps g) (I : NGood g) (hok : TagOk tag w) (hP : Ps[q]? = some P) (hn : n < g.np) (hst : (g.props n).st = 1) (hh : g.home n = q) :
    Calls Try.prog 23 #[.pointer (some ⟨P.ptr, 0, none⟩), .int .i64 (n : Int)] w fun e w' => ∃ ov, e = .returned (.tuple #[ov, .int .i64 0]) ∧
      ∃ (tag' : Nat → Tag) (Ps' : List PlaceM) (out : List Post), Row tag' (501 + q, 5, 0) 49 6 w' ov out.length (posts out) ∧ (g.dropG n).fl = g.fl ++ out ∧ out.length ≤ 64 ∧ OwnP tag' w' Ps' (g.dropG n) ∧ Ps'.map placePtr = Ps.map placePtr ∧ Fr (fun t => 501 ≤ t.1 ∧ t.1 ≤ 533) tag tag' w w' := by
  obtain ⟨N, h1, A⟩ := h.abs
  have hp : N.places[q]? = some P := by rw [h1]; exact hP
  have hA := A.place q P hp
  have hn32 : q < 32 := by have := (List.getElem?_eq_some_iff.1 hP).1; have := h.len; have := A.p32; omega
  obtain ⟨x, hx⟩ := hA.has n (by omega) (by omega) hh
  have hf := mem_find hA.uniq hx
  obtain ⟨_, _, _, e1, e2, e3⟩ := hA.props _ _ hx
  obtain ⟨hA', hlen⟩ := A.drop I hn hst hh hp hx
  have hlt := I.inv.got1 n (.inl hst)
  obtain ⟨c, hc⟩ : ∃ c, x.claims[x.granted]? = some c := ⟨_, List.getElem?_eq_getElem (by rw [e1, e3]; exact hlt)⟩
  refine (drop_ok (n := (n : Int)) (x := x) (h.rep q P hP) hok (A.wf I hp) hf (by rw [e2]; exact hst) (by rw [hA.out]; simp)).mono ?_
  rintro e w' ⟨ov, he, tag', hro, hrep, hfr⟩
  have hpl : (dropN N n q P x).places = Ps.set q { dropM P n x with out := [], came := [] } := by
    unfold dropN
    rw [(takeN_fl _ _ _).2, h1]
  have hfl := hA'.fl
  unfold dropN at hfl
  rw [(takeN_fl _ _ _).1] at hfl
  simp only [A.fl] at hfl
  refine ⟨ov, he, tag', Ps.set q { dropM P n x with out := [], came := [] }, (dropM P n x).out, hro, hfl.symm, hlen, h.step hP hfr hrep _ hpl hA', ?_, hfr.mono (fun t h => by omega)⟩
  rw [List.map_set]
  apply List.ext_getElem?
  intro j
  rw [List.getElem?_set]
  split
  · rename_i e
    subst e
    rw [List.length_map, if_pos (List.getElem?_eq_some_iff.1 hP).1, List.getElem?_map, hP]
    simp only [Option.map_some, placePtr]
    rw [dropM_eq hc]
  · rfl
set_option maxRecDepth 100000 in
set_option maxHeartbeats 1600000 in
theorem ownS_ok {k : Nat} {P : PlaceM} (n : Int) (bo : Nat) (hP : PRep tag k w P) (c1 : w.cell? ⟨bo, 1, none⟩ = some (.int .i64 n)) :
    Calls Try.prog 44 #[.pointer (some ⟨P.ptr, 0, none⟩), .pointer (some ⟨bo, 0, none⟩)] w fun e w' => e = .returned (.bool (find P.props n).isSome) ∧ w' = w := by
  have HS := status_ok n hP
  cases hf : find P.props n with
  | none =>
    rw [hf] at HS
    have HS := Lib.hid HS
    clear hP hf
    go_enter Try.func44, Try.ntmps44
    go_wp2_with (
      go_at_call 45
      refine HS.out.mono ?_
      rintro e w' ⟨rfl, hw⟩
      replace hw := hw.symm
      subst hw)
    go_ret
    exact ⟨rfl, rfl⟩
  | some x =>
    rw [hf] at HS
    have HS := Lib.hid HS
    clear hP hf
    go_enter Try.func44, Try.ntmps44
    go_wp2_with (
      go_at_call 45
      refine HS.out.mono ?_
      rintro e w' ⟨rfl, hw⟩
      replace hw := hw.symm
      subst hw)
    go_ret
    exact ⟨rfl, rfl⟩
set_option maxRecDepth 100000 in
set_option maxHeartbeats 1600000 in
theorem own_find {t : Tag} {A : Option Addr} {cap n q bo : Nat} (h : OwnP tag w Ps g) (hr : Row tag t 27 1 w (.slice A Ps.length cap) Ps.length (Ps.map placePtr)) (c1 : w.cell? ⟨bo, 1, none⟩ = some (.int .i64 (n : Int))) (hn : n < g.np) (hh : g.home n = q) :
    Calls Try.prog 43 #[.slice A Ps.length cap, .func (.func 44) #[] #[.pointer (some ⟨bo, 0, none⟩)]] w fun e w' => e = .returned (.int .i64 (q : Int)) ∧ w' = w := by
  obtain ⟨N, h1, AB⟩ := h.abs
  have hq : q < Ps.length := by
    have := AB.homer n (by omega) (by omega)
    have := h.len
    omega
  have hfind : ∀ (i : Nat) P, Ps[i]? = some P → (find P.props (n : Int)).isSome = decide (i = q) := by
    intro i P hi
    have hA := AB.place i P (by rw [h1]; exact hi)
    by_cases e : i = q
    · obtain ⟨x, hx⟩ := hA.has n (by omega) (by omega) (by rw [hh, e])
      rw [mem_find hA.uniq hx]; simp [e]
    · rw [find_none (fun x hx => by have := (hA.props _ _ hx).2.2.1; rw [hh] at this; omega)]; simp [e]
  have hlen : Ps.length ≤ 32 := by rw [h.len]; exact AB.p32.2
  obtain ⟨A', cap', hv, h3, h4⟩ := hr.form
  injection hv with hv1 hv2 hv3
  subst hv1 hv3
  unfold maxLen at h4
  have HO := Lib.hid h
  have HR := Lib.hid hr
  have HFI := Lib.hid hfind
  clear h hr hfind hh hv2 AB h1
  go_enter Try.func43, Try.ntmps43
  go_wp2_with fail
  go_loop [8] (fun i => ∃ m : Nat, m ≤ q ∧ i = .int .i64 m) (fun i => Ps.length - (intOf i).toNat)
  case atStart => exact ⟨0, Nat.zero_le _, rfl⟩
  case round =>
    obtain ⟨m, hm, rfl⟩ := hrel
    obtain ⟨P, hP⟩ : ∃ P, Ps[m]? = some P := ⟨_, List.getElem?_eq_getElem (by omega)⟩
    obtain ⟨b, rfl, _, _, hcell⟩ := HR.out.cell rfl (j := m) (by rw [List.length_map]; omega)
    have e0 : w.cell? ⟨b, m, none⟩ = some (.pointer (some ⟨P.ptr, 0, none⟩)) := by rw [hcell, List.getElem?_map, hP]; rfl
    have HS := Lib.hid (ownS_ok (n : Int) bo (HO.out.rep m P hP) c1)
    have hfm := HFI.out m P hP
    have i1 : (0 : Int) ≤ (m : Int) := by omega
    have i2 : (m : Int) < (Ps.length : Int) := by omega
    by_cases e : m = q
    · rw [hfm, decide_eq_true e] at HS
      subst e
      clear hcell hP hfm
      go_wp2_with (
        go_at_call 44
        refine HS.out.mono ?_
        rintro e w' ⟨rfl, hw⟩
        replace hw := hw.symm
        subst hw)
      go_ret
      exact ⟨rfl, rfl⟩
    · rw [hfm, decide_eq_false e] at HS
      have hmq : m < q := by omega
      clear hcell hP hfm e
      go_wp2_with (
        go_at_call 44
        refine HS.out.mono ?_
        rintro e w' ⟨rfl, hw⟩
        replace hw := hw.symm
        subst hw)
      go_round
      case rel => exact ⟨m + 1, by omega, by go_num⟩
      case measure => simp [intOf]; omega
end
end Go.Proofs.Ytclkokkppgchfaa

/- A delivery: what comes about lies in the place's own row. -/
namespace Go.Ng
open Go Go.RowKit
section
variable {P : Program} {ops : Array Oper} {Q : Exit → Act → World → Prop} {tag : Nat → Tag} {t : Tag} {E sz : Nat} {w : World} {v : Value} {n : Nat} {ks : List Value}
/-- At an append of a slice that may be empty, in a region that draws its order. -/
theorem append_any_arm {oi : Oper} {N : Option Tmp} {a : Act} {K : Act → World → Prop} (hw : Region.wanted oi (yielded ops a.tmps) = true) (hN : oi.dst = N) (s x : Operand) (T : TypeId)
    (hop : oi.op = .call { callee := .builtin .append, args := #[s, x], argTypes := #[T, T] }) (hs : a.eval s = v) {xv : Value} (hx : a.eval x = xv)
    (h : Row tag t E sz w v n ks) (hok : TagOk tag w) {i : TypeInfo} {z : Value} {bytes : Nat} (hT : P.underlying T = some (.slice E)) (hi : P.info? E = some i) (hz : i.zero = some z)
    (hsize : i.size = sz) (hby : i.bytes = bytes) (hzs : z.cells.size = sz) (hsz : 0 < sz) {m : Nat} {news : List Value} (hxr : Rd sz w xv m news) (h63 : n + m ≤ maxLen) (hbytes : (n + m) * bytes ≤ 140737488355328)
    (hk : ∀ A cap w' tag', Row tag' t E sz w' (.slice A (n + m) cap) (n + m) (ks ++ news) → Fr (· = t) tag tag' w w' → K (a.put N (.slice A (n + m) cap)) w') :
    if Region.wanted oi (yielded ops a.tmps) = true then Oper.wp P oi a w K Q else K (a.put N undef) w := by
  rw [if_pos hw]
  subst hN
  obtain ⟨A, cap, w', tag', hr, h2, h3⟩ := h.append_any_run (P := P) hok T oi.type i z bytes hT hi hz hsize hby hzs hsz hxr h63 hbytes
  unfold Oper.wp execOp
  simp only [hop, resolve, invoke, builtin, Sem.run_bind, Sem.run_pure, Result.andThen_ok, List.map_toArray, List.map_cons, List.map_nil, hs, hx, hr]
  exact hk A cap w' tag' h2 h3
end
end Go.Ng
namespace Go.Proofs.Ytclkokkppgchfaa
open Go.RowKit Go.Ng Go.Proofs.YtclkokkppgchfaaW.PrintLast
set_option linter.unusedSimpArgs false
set_option linter.unusedVariables false
section
variable {tag : Nat → Tag} {w : World} {B k : Nat} {g : G}
theorem live_deliver2 {N : NetM} {i : Nat} {m : Post} (L : Live tag B w N g k) (hk : k ≤ 150) (hm : g.fl[i]? = some m) :
    Calls Try.prog 61 #[.pointer (some ⟨N.ptr, 0, none⟩), .int .i64 (i : Int)] w fun e w' => ∃ cv, e = .returned (.tuple #[cv, .int .i64 0]) ∧ ∃ (tag' : Nat → Tag) (t : Tag), LiveP tag' B w' N.ptr (g.deliverG i m) k ∧ Row tag' t 106 3 w' cv (g.takeG m).2.2.length (cames (g.takeG m).2.2) ∧ (B < t.1 ∧ t.1 ≤ B + 32) ∧ Fr (fun t => B ≤ t.1 ∧ t.1 ≤ B + 32) tag tag' w w' := by
  have hS := L.small (by omega)
  have hmem := List.mem_of_getElem? hm
  have hi : N.flight[i]? = some m := by rw [L.abs.fl]; exact hm
  have R := L.good.route m hmem
  obtain ⟨k1, k2, c, _, hc⟩ := L.good.inv.mcl _ _ _ (has_mem hmem)
  obtain ⟨p0, pn, j0, jn⟩ := L.good.inv.rng _ _ _ hc
  have hdst : 0 ≤ m.dst ∧ m.dst < g.places := by
    by_cases e : m.kind = 2 ∨ m.kind = 3
    · rw [(R.dst.1 e).2]; exact L.abs.homer _ p0 pn
    · rw [(R.dst.2 (fun x => e (.inl x)) (fun x => e (.inr x))).2]; exact L.abs.siter _ j0 jn
  obtain ⟨p, hp⟩ := Int.eq_ofNat_of_zero_le hdst.1
  have hpl : p < N.places.length := by rw [L.abs.plen]; omega
  have hP : N.places[p]? = some N.places[p] := List.getElem?_eq_getElem hpl
  obtain ⟨ht, hq⟩ := L.abs.tame L.good hS hP
  obtain ⟨hv, hpr, hit⟩ := L.abs.valid L.good hS hP hmem hp
  obtain ⟨hab, hcame⟩ := L.abs.deliver L.good hi hp hP
  have hA := L.abs.place p _ hP
  have T := take_abs hA L.good hmem hp
  have hol := takeG_out_len L.good m
  have hnp := L.np
  have hcl : (takeM N.places[p] m).came.length ≤ 1 := by
    rw [hcame]
    have hC := takeG_cames (g := g) m
    generalize (g.takeG m).1 = g1 at hC
    generalize (g.takeG m).2.2 = cs at hC
    cases hC <;> simp
  have hcit : ∀ c ∈ (takeM N.places[p] m).came, c.kind = 3 → ∃ j : Nat, c.item = j ∧ j < N.history.length := by
    rw [hcame]
    have hC := takeG_cames (g := g) m
    generalize (g.takeG m).1 = g1 at hC
    generalize (g.takeG m).2.2 = cs at hC
    cases hC with
    | none => simp
    | done => simp
    | not => simp
    | moved =>
      intro c hc hk3
      rw [List.mem_singleton.1 hc]
      obtain ⟨j, hj⟩ := Int.eq_ofNat_of_zero_le j0
      exact ⟨j, hj, by rw [L.abs.ylen]; omega⟩
  refine (deliver_ok L.rep L.ok hi hp hP hv ht hq hpr hit (by have := L.fl_len (by omega); omega) (by rw [T.out]; omega) (by omega) hcit (by rw [L.abs.dec]; have := dec_len L.good; omega) (fun j => by have := getD_hist L.abs L.good j; omega)).mono ?_
  rintro e w' ⟨cv, rfl, tag', hN, hcv, hF⟩
  obtain ⟨s1, s2, s3, s4, s5, s6, s7⟩ := takeG_same (g := g) m
  have hpb : p < 32 := by have := L.abs.p32; rw [L.abs.plen] at hpl; omega
  refine ⟨cv, rfl, tag', (B + 1 + p, 6, 0), ⟨_, ?_, ⟨hN, hab, L.good.deliver hm, by show (g.takeG m).1.np ≤ _; rw [s4]; omega, ?_, hF.dom⟩⟩, by rw [hcame] at hcv; exact hcv, ⟨by show B < B + 1 + p; omega, by show B + 1 + p ≤ B + 32; omega⟩, hF.mono (fun t h => by omega)⟩
  · exact (takeN_same _ _ _).1
  · have := wt_deliver W1_ok L.good hm; have := L.wt; omega
set_option maxRecDepth 100000 in
set_option maxHeartbeats 1600000 in
theorem p_do2 {p : Nat} {i : Nat} {m : Post} {v : Value} {oc : List Clm} (L : LiveP tag B w p g k) (hk : k ≤ 150) (hm : g.fl[i]? = some m) (hr : RdX tag w v oc) :
    Calls Try.prog 31 #[.pointer (some ⟨p, 0, none⟩), .agg #[.int .i64 2, .int .i64 (i : Int), v]] w fun e w' => ∃ cv, e = .returned (.tuple #[.int .i64 0, cv, .int .i64 0]) ∧ ∃ (tag' : Nat → Tag) (t : Tag), LiveP tag' B w' p (g.deliverG i m) k ∧ Row tag' t 106 3 w' cv (g.takeG m).2.2.length (cames (g.takeG m).2.2) ∧ (B < t.1 ∧ t.1 ≤ B + 32) ∧ Fr (fun t => B ≤ t.1 ∧ t.1 ≤ B + 32) tag tag' w w' := by
  obtain ⟨VA, vcap, rfl, q2⟩ := hr.slice
  have hF : Fr (fun _ => False) tag tag w (w.alloc (.cells #[.int .i64 2, .int .i64 (i : Int), .slice VA oc.length vcap] 36)) := Fr.alloc L.ok _
  obtain ⟨N, rfl, LL⟩ := L.net
  have HC := Lib.hid (live_deliver2 (LL.frF hF) hk hm)
  have HF := Lib.hid hF
  clear L hr hF LL hm
  go_enter Try.func31, Try.ntmps31
  go_wp2_with (
    go_at_call 61
    refine HC.out.mono ?_
    rintro e w' ⟨cv, rfl, T, t, h1, h2, h3, h4⟩
    have H1 := Lib.hid h1
    have H2 := Lib.hid h2
    have H3 := Lib.hid h3
    have H4 := Lib.hid h4
    clear h1 h2 h3 h4)
  go_ret3
  exact ⟨cv, rfl, T, t, H1.out, H2.out, H3.out, (HF.out.mono (fun _ h => h.elim)).trans H4.out⟩
end
end Go.Proofs.Ytclkokkppgchfaa

/- NegoFree: the walk. -/
namespace Go.Proofs.Ytclkokkppgchfaa
open Go.RowKit Go.Ng Go.Proofs.YtclkokkppgchfaaW.PrintLast
set_option linter.unusedSimpArgs false
set_option linter.unusedVariables false
theorem doL_same (g : G) (i : Int) : (doL g i).1.n = g.n ∧ (doL g i).1.np = g.np ∧ (∀ p, ((doL g i).1.props p).claims = (g.props p).claims) := by
  unfold doL; split
  · exact ⟨rfl, rfl, fun _ => rfl⟩
  · split
    · have h := takeG_same (g := g) ‹_›; exact ⟨h.2.2.1, h.2.2.2.1, h.2.2.2.2.2.2⟩
    · exact ⟨rfl, rfl, fun _ => rfl⟩
theorem calmN_n (choices : List Int) (g : G) : ∀ k, (calmN choices g k).1.n = g.n ∧ (calmN choices g k).1.np = g.np ∧ (∀ p, ((calmN choices g k).1.props p).claims = (g.props p).claims)
  | 0 => ⟨rfl, rfl, fun _ => rfl⟩
  | k + 1 => by
    have h1 := calmN_n choices g k
    have h2 := doL_same (calmN choices g k).1 (pickC choices k (calmN choices g k).1.fl.length)
    exact ⟨h2.1.trans h1.1, h2.2.1.trans h1.2.1, fun p => (h2.2.2 p).trans (h1.2.2 p)⟩
set_option maxRecDepth 100000 in
set_option maxHeartbeats 6400000 in
theorem negoFree_ok {tag : Nat → Tag} {w : World} {v vc : Value} {places : Int} {items choices : List Int} {l : List OpM} (h : WorldRd tag w v places items l) (hc : Rd 1 w vc choices.length (ints choices)) (hce : Ext tag w vc) (hok : TagOk tag w) :
    Calls Try.prog 8 #[v, vc] w fun e w' => e = .returned (.bool true) ∧ ∃ tag', Fr (fun t => 1 ≤ t.1) tag tag' w w' := by
  have HS := fun {tag : Nat → Tag} {w : World} => @sane_ok tag w 1
  obtain ⟨vi, vl, rfl, hi, hie, hl⟩ := h.form
  obtain ⟨IA, icap, rfl, q1, q2⟩ := hi.slice
  obtain ⟨LA, lcap, rfl, q3, q4⟩ := hl.slice
  obtain ⟨CA, ccap, rfl, q5, q6⟩ := hc.slice
  unfold maxLen at q2 q6
  have hFa : Fr (fun _ => False) tag tag w (w.alloc (.cells #[.int .i64 places, .slice IA items.length icap, .slice LA l.length lcap] 75)) := Fr.alloc hok _
  have HFa := Lib.hid hFa
  have HW := Lib.hid (h.fr hFa (fun t h => h.elim))
  have HCR := Lib.hid (hc.frF hFa)
  have HCE := Lib.hid (hce.fr hFa)
  have hnew : (tag w.heap.size).1 = 0 := hok.new
  clear h hi hie hl hFa hc hce
  by_cases hb : fewB items.length l = false ∨ validB places items = false
  · have HB := Lib.hid hb
    clear hb
    go_enter Try.func8, Try.ntmps8
    go_wp2_with (first
    | (
      go_at_call 16
      refine (HS HFa.out.dom (by omega)).mono ?_
      rintro e w1 ⟨rfl, T1, hF1, hok1⟩
      have k0 : w1.cell? ⟨w.heap.size, 0, none⟩ = some (.int .i64 places) := hF1.cell (by go_simp) (by simp only [hnew]; omega)
      have k1 : w1.cell? ⟨w.heap.size, 1, none⟩ = some (.slice IA items.length icap) := hF1.cell (by go_simp) (by simp only [hnew]; omega)
      have k2 : w1.cell? ⟨w.heap.size, 2, none⟩ = some (.slice LA l.length lcap) := hF1.cell (by go_simp) (by simp only [hnew]; omega)
      have HT1 := Lib.hid (hF1.same w.heap.size (by simp))
      have HW1 := Lib.hid (HW.out.fr hF1 (fun t h => by omega))
      have HCR1 := Lib.hid (HCR.out.ext HCE.out hF1 (fun t h => by omega))
      have HCE1 := Lib.hid (HCE.out.fr hF1)
      have HF1 := Lib.hid ((HFa.out.mono (S' := fun t => 1 ≤ t.1) (fun _ h => h.elim)).trans (hF1.mono (fun t h => by omega)))
      clear hF1)
    | (
      go_at_call 39
      refine (begun_no HW1.out HF1.out.dom HB.out).mono ?_
      rintro e w2 ⟨rfl, hF2⟩
      have HF2 := Lib.hid (HF1.out.trans (hF2.mono (fun _ h => h.elim)))
      clear hF2))
    go_ret
    exact ⟨rfl, T1, HF2.out⟩
  · simp only [not_or, Bool.not_eq_false] at hb
    obtain ⟨hb1, hb2⟩ := hb
    have HB1 := Lib.hid hb1
    have HB2 := Lib.hid hb2
    have hn0 : (runG (beginG places.toNat items) l).n = items.length := by rw [runG_same]; rfl
    clear hb1 hb2
    by_cases hmany : 2000 < choices.length
    · have i8 : decide ((2000 : Int) < (choices.length : Int)) = true := decide_eq_true (by omega)
      clear hmany
      go_enter Try.func8, Try.ntmps8
      go_wp2_with (first
      | (
      go_at_call 16
      refine (HS HFa.out.dom (by omega)).mono ?_
      rintro e w1 ⟨rfl, T1, hF1, hok1⟩
      have k0 : w1.cell? ⟨w.heap.size, 0, none⟩ = some (.int .i64 places) := hF1.cell (by go_simp) (by simp only [hnew]; omega)
      have k1 : w1.cell? ⟨w.heap.size, 1, none⟩ = some (.slice IA items.length icap) := hF1.cell (by go_simp) (by simp only [hnew]; omega)
      have k2 : w1.cell? ⟨w.heap.size, 2, none⟩ = some (.slice LA l.length lcap) := hF1.cell (by go_simp) (by simp only [hnew]; omega)
      have HT1 := Lib.hid (hF1.same w.heap.size (by simp))
      have HW1 := Lib.hid (HW.out.fr hF1 (fun t h => by omega))
      have HCR1 := Lib.hid (HCR.out.ext HCE.out hF1 (fun t h => by omega))
      have HCE1 := Lib.hid (HCE.out.fr hF1)
      have HF1 := Lib.hid ((HFa.out.mono (S' := fun t => 1 ≤ t.1) (fun _ h => h.elim)).trans (hF1.mono (fun t h => by omega)))
      clear hF1)
      | (
      go_at_call 39
      refine (p_begun 100 HW1.out HF1.out.dom (by omega) HB1.out HB2.out).mono ?_
      rintro e w2 ⟨p, rfl, T2, hL2, hF2⟩
      have m1 : w2.cell? ⟨w.heap.size, 1, none⟩ = some (.slice IA items.length icap) := hF2.cell k1 (by simp only [HT1.out, hnew]; omega)
      have HT2 := Lib.hid ((hF2.same w.heap.size (World.block_lt_of_cell? w1 _ k0)).trans HT1.out)
      have HL2 := Lib.hid hL2
      have HCR2 := Lib.hid (HCR1.out.ext HCE1.out hF2 (fun t h => by omega))
      have HCE2 := Lib.hid (HCE1.out.fr hF2)
      have HF2 := Lib.hid (HF1.out.trans (hF2.mono (fun t h => by omega)))
      clear hF2 hL2 k0 k1 k2))
      go_ret
      exact ⟨rfl, T2, HF2.out⟩
    · have i8 : decide ((2000 : Int) < (choices.length : Int)) = false := decide_eq_false (by omega)
      have hc2000 : choices.length ≤ 2000 := by omega
      clear hmany
      have HN0 := Lib.hid hn0
      clear hn0
      go_enter Try.func8, Try.ntmps8
      go_wp2_with (first
      | (
      go_at_call 16
      refine (HS HFa.out.dom (by omega)).mono ?_
      rintro e w1 ⟨rfl, T1, hF1, hok1⟩
      have k0 : w1.cell? ⟨w.heap.size, 0, none⟩ = some (.int .i64 places) := hF1.cell (by go_simp) (by simp only [hnew]; omega)
      have k1 : w1.cell? ⟨w.heap.size, 1, none⟩ = some (.slice IA items.length icap) := hF1.cell (by go_simp) (by simp only [hnew]; omega)
      have k2 : w1.cell? ⟨w.heap.size, 2, none⟩ = some (.slice LA l.length lcap) := hF1.cell (by go_simp) (by simp only [hnew]; omega)
      have HT1 := Lib.hid (hF1.same w.heap.size (by simp))
      have HW1 := Lib.hid (HW.out.fr hF1 (fun t h => by omega))
      have HCR1 := Lib.hid (HCR.out.ext HCE.out hF1 (fun t h => by omega))
      have HCE1 := Lib.hid (HCE.out.fr hF1)
      have HF1 := Lib.hid ((HFa.out.mono (S' := fun t => 1 ≤ t.1) (fun _ h => h.elim)).trans (hF1.mono (fun t h => by omega)))
      clear hF1)
      | (
      go_at_call 39
      refine (p_begun 100 HW1.out HF1.out.dom (by omega) HB1.out HB2.out).mono ?_
      rintro e w2 ⟨p, rfl, T2, hL2, hF2⟩
      have m1 : w2.cell? ⟨w.heap.size, 1, none⟩ = some (.slice IA items.length icap) := hF2.cell k1 (by simp only [HT1.out, hnew]; omega)
      have HT2 := Lib.hid ((hF2.same w.heap.size (World.block_lt_of_cell? w1 _ k0)).trans HT1.out)
      have HL2 := Lib.hid hL2
      have HCR2 := Lib.hid (HCR1.out.ext HCE1.out hF2 (fun t h => by omega))
      have HCE2 := Lib.hid (HCE1.out.fr hF2)
      have HF2 := Lib.hid (HF1.out.trans (hF2.mono (fun t h => by omega)))
      clear hF2 hL2 k0 k1 k2)
      | (
        go_at_call 37
        refine (calm_ok choices HL2.out (by decide) HCR2.out HCE2.out (by omega)).mono ?_
        rintro e w3 ⟨rfl, m, T3, hfl, hm, hL3, hF3⟩
        have m3 : w3.cell? ⟨w.heap.size, 1, none⟩ = some (.slice IA items.length icap) := hF3.cell m1 (by simp only [HT2.out, hnew]; omega)
        have HL3 := Lib.hid hL3
        have HFL := Lib.hid hfl
        have HF3 := Lib.hid (HF2.out.trans (hF3.mono (fun t h => by omega)))
        have HT3 := Lib.hid ((hF3.same w.heap.size (World.block_lt_of_cell? w2 _ m1)).trans HT2.out)
        clear hL3 hfl hF3 m1))
      have hgn : (calmN choices (runG (beginG places.toNat items) l) m).1.n = items.length := by rw [(calmN_n _ _ _).1]; exact HN0.out
      generalize (calmN choices (runG (beginG places.toNat items) l) m).1 = g at HL3 HFL hgn
      have HN := Lib.hid hgn
      have HST := Lib.hid (still_of HFL.out)
      clear hgn hm
      go_wp2_with fail
      go_loopw [40] (fun i wr => ∃ n : Nat, n ≤ items.length ∧ i = .int .i64 n ∧ ∃ Tr : Nat → Tag, Hid (LiveP Tr 100 wr p g 80) ∧ Hid (Fr (fun t => 1 ≤ t.1) tag Tr w wr)) (fun i _ => items.length - (intOf i).toNat)
      case atStart => exact ⟨0, Nat.zero_le _, rfl, T3, HL3, HF3⟩
      case round =>
        obtain ⟨n, hn, rfl, Tr, HLr, HFr⟩ := hrel
        by_cases hlt : n < items.length
        · have HJ : Hid (n < g.n) := Lib.hid (by rw [HN.out]; exact hlt)
          have HFREE := Lib.hid (still_free HLr.out.good.inv HST.out n)
          go_wp2_with (first
          | (
            go_at_call 41
            refine (p_holder (j := n) HLr.out HJ.out).mono ?_
            rw [show holdI (g.items n) = -1 from by rw [holdI, HFREE.out.1]]
            rintro e w4 ⟨rfl, hF4⟩
            have HL4 := Lib.hid (HLr.out.frF hF4)
            have HF4 := Lib.hid (HFr.out.trans (hF4.mono (fun _ h => h.elim)))
            clear hF4)
          | (
            go_at_call 40
            refine (p_waits (j := n) 300 (by omega) HL4.out HJ.out (by decide)).mono ?_
            rintro e w5 ⟨v5, rfl, T5, i5, hrow, hF5⟩
            obtain ⟨A5, c5, h5, _, _⟩ := hrow.form
            rw [HFREE.out.2] at h5
            simp only [List.length_nil] at h5
            subst h5
            have HL5 := Lib.hid (HL4.out.frF hF5)
            have HF5 := Lib.hid (HF4.out.trans (hF5.mono (fun _ h => h.elim)))
            clear hF5 hrow))
          go_roundw
          case rel => exact ⟨n + 1, by omega, by go_num, T5, HL5, HF5⟩
          case measure => simp [intOf]; omega
        · have hnn : n = items.length := by omega
          subst hnn
          go_wp2_with (
            go_at_call 48
            refine (p_proposals 400 HLr.out (by omega) (by decide)).mono ?_
            rintro e w6 ⟨v6, vs, rfl, T6, hrow, _, hF6⟩
            obtain ⟨A6, c6, rfl, _, _⟩ := hrow.form
            have HL6 := Lib.hid (HLr.out.fr hF6 (fun t h => by omega))
            have HF6 := Lib.hid (HFr.out.trans (hF6.mono (fun t h => by omega)))
            clear hrow hF6)
          have hnp6 : g.np ≤ 80 := HL6.out.np
          go_loopw [74] (fun i wr => ∃ n : Nat, n ≤ g.np ∧ i = .int .i64 n ∧ ∃ Tr : Nat → Tag, Hid (LiveP Tr 100 wr p g 80) ∧ Hid (Fr (fun t => 1 ≤ t.1) tag Tr w wr)) (fun i _ => g.np - (intOf i).toNat)
          case atStart => exact ⟨0, Nat.zero_le _, rfl, T6, HL6, HF6⟩
          case round =>
            obtain ⟨n, hn, rfl, Tr, HLr, HFr⟩ := hrel
            by_cases hlt : n < g.np
            · have HS1 : Hid (((g.props n).st == 1) = false) := Lib.hid (by rw [beq_eq_false_iff_ne]; exact still_closed HLr.out.good.inv HST.out n)
              go_wp2_with (
                go_at_call 38
                refine (p_status (n := n) HLr.out hlt).mono ?_
                rintro e w7 ⟨rfl, hF7⟩
                have hs1 := HS1.out
                have HL7 := Lib.hid (HLr.out.frF hF7)
                have HF7 := Lib.hid (HFr.out.trans (hF7.mono (fun _ h => h.elim)))
                clear hF7)
              go_roundw
              case rel => exact ⟨n + 1, by omega, by go_num, Tr, HL7, HF7⟩
              case measure => simp [intOf]; omega
            · have hnn : n = g.np := by omega
              subst hnn
              go_wp2_with fail
              go_ret
              exact ⟨rfl, Tr, HFr.out⟩
end Go.Proofs.Ytclkokkppgchfaa
