/- A part of the proof: texts of this session, joined. -/
import Derived.Test.YtclkokkppgchfaaPart8
import Derived.IntWalk
import Derived.Test.YtclkokkppgchfaaPart6
import Derived.Laws.OwnMore
import Derived.Test.YtclkokkppgchfaaShort
set_option linter.unusedSimpArgs false
set_option linter.unusedVariables false
set_option maxHeartbeats 6400000
set_option maxRecDepth 100000
namespace Go.Proofs.Ytclkokkppgchfaa
open Go.Ng
def dropN (N : NetM) (n : Int) (p : Nat) (P : PlaceM) (x : PropM) : NetM :=
 takeN { N with places := N.places.set p { dropM P n x with out := [],came := [] } } (dropM P n x).out []
def proposeN (N : NetM) (p : Nat) (P : PlaceM) (l : List Clm) (xp : Nat) : NetM :=
 takeN { N with places := N.places.set p { proposeM P N.claims.length l xp with out := [],came := [] },claims := N.claims ++ [l],homes := N.homes ++ [(p : Int)] } (proposeM P N.claims.length l xp).out []
section
variable {N : NetM} {g : G}
theorem dropM_eq {P : PlaceM} {n : Int} {x : PropM} {c : Clm} (hc : x.claims[x.granted]? = some c) :
  dropM P n x = { P with props := upd P.props n { x with state := 4 },out := P.out ++ (x.claims.take (x.granted + 1)).map (fun c => ⟨5,P.no,P.site c.item,n,c.item,0⟩) } := by
 have hl := (List.getElem?_eq_some_iff.1 hc).1
 have he : x.claims[x.granted] = c := (List.getElem?_eq_some_iff.1 hc).2
 rw [dropM,hc]
 simp only
 rw [freeM_eq,List.take_succ_eq_append_getElem hl,he]
 simp [PlaceM.send,setProp,PlaceM.site]
theorem Abs.drop (A : Abs N g) (I : NGood g) {n p : Nat} {P : PlaceM} {x : PropM} (hn : n < g.np) (hst : (g.props n).st = 1) (hh : g.home n = p) (hp : N.places[p]? = some P) (hx : ((n : Int),x) ∈ P.props) :
  Abs (dropN N n p P x) (g.dropG n) ∧ (dropM P n x).out.length ≤ 64 := by
 have hA := A.place p P hp
 obtain ⟨_,_,_,e1,e2,e3⟩ := hA.props _ _ hx
 have hlt := I.inv.got1 n (.inl hst)
 obtain ⟨c,hc⟩ : ∃ c,x.claims[x.granted]? = some c := ⟨_,List.getElem?_eq_getElem (by rw [e1,e3]; exact hlt)⟩
 have he := dropM_eq (P := P) (n:=n) hc
 have hout : (dropM P n x).out = ((g.props n).claims.take ((g.props n).got + 1)).map (fun c => g.mFree n c.item) := by
  rw [he]
  simp only [hA.out,List.nil_append,e1,e3]
  refine List.map_congr_left fun c hc' => ?_
  have hsi := claim_site hA I (List.mem_of_mem_take hc')
  simp only [PlaceM.site] at hsi
  simp only [G.mFree,hA.no,hh,PlaceM.site,hsi]
 have hlen := I.inv.len n
 refine ⟨?_,by rw [hout]; simp; omega⟩
 have hP : PlAbs { g.setP n { g.props n with st := 4 } with dec := g.dec } p { dropM P n x with out := [],came := [] } := by
  rw [he]
  exact hA.set_prop hx (x' := { x with state := 4 }) (y := { g.props n with st := 4 }) (d := g.dec) e1 rfl e3 _ rfl
 have := A.put hp hP rfl rfl rfl rfl rfl (fun q => by by_cases e : q = n <;> simp [G.setP,e]) (fun j hj hs => rfl) (fun q h0 h1 hs => by
  have : q ≠ n := by rintro rfl; exact hs hh
  simp [G.setP,this]) (fl := N.flight ++ (dropM P n x).out) (y := N.history) (d := N.decided) A.ylen A.hist A.dec
 rw [A.fl,hout] at this
 unfold dropN takeN G.dropG
 simp only [List.foldl_nil]
 rw [A.fl,hout]
 exact this
theorem proposeM_eq {P : PlaceM} {n : Int} {l : List Clm} {c : Clm} {xp : Nat} (hc : l[0]? = some c) :
  proposeM P n l xp = { P with props := P.props ++ [(n,⟨xp,l,1,0⟩)],out := P.out ++ [⟨1,P.no,P.site c.item,n,c.item,c.version⟩] } := by
 cases l with
 | nil => cases hc
 | cons c' t =>
  simp at hc; subst hc
  rfl
theorem find_none {l : List (Int × PropM)} {n : Int} (h : ∀ x,(n,x) ∉ l) : find l n = none := by
 cases hf : find l n with
 | none => rfl
 | some x => exact absurd (find_mem hf) (h x)
theorem Abs.propose (A : Abs N g) (I : NGood g) {p : Nat} {P : PlaceM} {l : List Clm} {c : Clm} (xp : Nat) (hp : N.places[p]? = some P) (hl : ClaimsOk g.n l) (hc : l[0]? = some c) :
  Abs (proposeN N p P l xp) (g.proposeG p l c) ∧ (proposeM P N.claims.length l xp).out.length ≤ 1 ∧ find P.props g.np = none := by
 have hA := A.place p P hp
 have hpl := (List.getElem?_eq_some_iff.1 hp).1
 have he := proposeM_eq (P := P) (n:=N.claims.length) (xp := xp) hc
 have hci := hl.item c (List.mem_of_getElem? hc)
 have hsi := hA.site hci.1 hci.2.1
 have hno : ∀ x,((g.np : Int),x) ∉ P.props := fun x hx => by have := hA.props _ _ hx; omega
 have hout : (proposeM P N.claims.length l xp).out = [⟨1,p,g.site c.item,g.np,c.item,c.version⟩] := by
  rw [he]; simp [hA.out,hA.no,hsi,A.clen]
 refine ⟨?_,by rw [hout]; simp,find_none hno⟩
 have hset : N.places.length = g.places := A.plen
 unfold proposeN takeN G.proposeG
 simp only [List.foldl_nil]
 rw [hout]
 have hP : ∀ (i : Nat) (Q : PlaceM),(N.places.set p { proposeM P N.claims.length l xp with out := [],came := [] })[i]? = some Q → PlAbs { g.setP g.np ⟨l,1,0⟩ with np := g.np + 1,home := fun q => if q = g.np then (p : Int) else g.home q,fl := g.fl ++ [⟨1,p,g.site c.item,g.np,c.item,c.version⟩] } i Q := by
  intro i Q hQ
  have hhome : ∀ q : Int,0 ≤ q → q < g.np → (if q = (g.np : Int) then (p : Int) else g.home q) = g.home q := fun q _ h => by rw [if_neg (by omega)]
  rw [List.getElem?_set] at hQ
  have hit : ∀ (Q' : PlaceM),PlAbs g i Q' → ∀ j : Nat,j < g.n → g.site j = i → ∃ it,Q'.items[j]? = some (some it) ∧ ItAbs (fun q => if q = (g.np : Int) then (p : Int) else g.home q) it (g.items j) := by
   intro Q' hQ' j hj hs
   obtain ⟨it,h1,h2⟩ := hQ'.items j hj hs
   refine ⟨it,h1,h2.hold,h2.queue,h2.ver,h2.thr,fun a ha => ?_⟩
   have hq : a.prop ∈ (g.items j).queue := by rw [h2.queue]; exact List.mem_map.2 ⟨a,ha,rfl⟩
   obtain ⟨k,_,hk⟩ := I.inv.qcl _ _ hq
   have := I.inv.rng _ _ _ hk
   rw [hhome a.prop this.1 this.2.1]
   exact h2.place a ha
  by_cases e : p = i
  ·subst e
   rw [if_pos rfl,if_pos hpl] at hQ
   injection hQ with hQ
   subst hQ
   rw [he]
   refine ⟨hA.no,hA.slen,hA.sites,hA.ilen,hit P hA,hA.foreign,?_,?_,?_,by simp; exact hA.plen,rfl,rfl⟩
   ·intro n x hx
    rcases List.mem_append.1 hx with hx | hx
    ·obtain ⟨h1,h2,h3,h4⟩ := hA.props n x hx
     refine ⟨h1,by show n < ((g.np + 1 : Nat) : Int); omega,by show (if n = (g.np : Int) then (p : Int) else g.home n) = p; rw [hhome n h1 h2]; exact h3,?_⟩
     simp only [G.setP,if_neg (show n ≠ (g.np : Int) by omega)]
     exact h4
    ·simp only [List.mem_singleton,Prod.mk.injEq] at hx
     obtain ⟨rfl,rfl⟩ := hx
     rw [A.clen]
     refine ⟨by omega,by show (g.np : Int) < ((g.np + 1 : Nat) : Int); omega,by simp,by simp [G.setP],by simp [G.setP],by simp [G.setP]⟩
   ·intro n x y hx hy
    rcases List.mem_append.1 hx with hx | hx <;> rcases List.mem_append.1 hy with hy | hy
    ·exact hA.uniq n x y hx hy
    ·simp only [List.mem_singleton,Prod.mk.injEq,A.clen] at hy
     exact absurd (by rw [← hy.1]; exact hx) (hno x)
    ·simp only [List.mem_singleton,Prod.mk.injEq,A.clen] at hx
     exact absurd (by rw [← hx.1]; exact hy) (hno y)
    ·simp only [List.mem_singleton,Prod.mk.injEq] at hx hy
     rw [hx.2,hy.2]
   ·intro n h0 h1 h2
    have h1' : n < ((g.np + 1 : Nat) : Int) := h1
    by_cases en : n = (g.np : Int)
    ·exact ⟨_,List.mem_append.2 (.inr (by rw [A.clen,en]; exact List.mem_singleton.2 rfl))⟩
    ·have h2' : (if n = (g.np : Int) then (p : Int) else g.home n) = p := h2
     rw [if_neg en] at h2'
     obtain ⟨x,hx⟩ := hA.has n h0 (by omega) h2'
     exact ⟨x,List.mem_append.2 (.inl hx)⟩
  ·rw [if_neg e] at hQ
   have hB := A.place i Q hQ
   refine ⟨hB.no,hB.slen,hB.sites,hB.ilen,hit Q hB,hB.foreign,?_,hB.uniq,?_,by show Q.props.length ≤ g.np + 1; have := hB.plen; omega,hB.out,hB.came⟩
   ·intro n x hx
    obtain ⟨h1,h2,h3,h4⟩ := hB.props n x hx
    refine ⟨h1,by show n < ((g.np + 1 : Nat) : Int); omega,by show (if n = (g.np : Int) then (p : Int) else g.home n) = i; rw [hhome n h1 h2]; exact h3,?_⟩
    simp only [G.setP,if_neg (show n ≠ (g.np : Int) by omega)]
    exact h4
   ·intro n h0 h1 h2
    have h1' : n < ((g.np + 1 : Nat) : Int) := h1
    have h2' : (if n = (g.np : Int) then (p : Int) else g.home n) = i := h2
    by_cases en : n = (g.np : Int)
    ·rw [if_pos en] at h2'; omega
    ·rw [if_neg en] at h2'
     exact hB.has n h0 (by omega) h2'
 refine ⟨by simp [A.plen,G.setP],A.p32,hP,A.slen,A.sites,A.n64,A.siter,by simp [A.clen],?_,by simp [A.hlen],?_,?_,A.ylen,A.hist,by rw [A.fl],A.dec⟩
 ·intro q hq
  have hq' : q < g.np + 1 := hq
  simp only [G.setP,List.getElem?_append,A.clen]
  by_cases e : q < g.np
  ·rw [if_pos e,if_neg (by omega)]; exact A.claims q e
  ·have : q = g.np := by omega
   subst this
   simp
 ·intro q hq
  have hq' : q < g.np + 1 := hq
  simp only [List.getElem?_append,A.hlen]
  by_cases e : q < g.np
  ·rw [if_pos e,if_neg (by omega)]; exact A.homes q e
  ·have : q = g.np := by omega
   subst this
   simp
 ·intro q h0 h1
  have h1' : q < ((g.np + 1 : Nat) : Int) := h1
  show 0 ≤ (if q = (g.np : Int) then (p : Int) else g.home q) ∧ (if q = (g.np : Int) then (p : Int) else g.home q) < g.places
  by_cases e : q = (g.np : Int)
  ·rw [if_pos e]; omega
  ·rw [if_neg e]; exact A.homer q h0 (by omega)
end
end Go.Proofs.Ytclkokkppgchfaa
namespace Go.Proofs.Ytclkokkppgchfaa
open Go.RowKit Go.Ng Go.Proofs.YtclkokkppgchfaaW.PrintLast
theorem wrap_i64 {x : Int} (h0 : 0 ≤ x) (h1 : x ≤ 1000000) : IntKind.i64.wrap x = x := IntWalk.i64_in x (by omega)
section
variable {tag : Nat → Tag} {w : World} {B : Nat} {N : NetM}
theorem ndrop_none (n : Int) (h : NRep tag B w N) (hn : (decide (0 ≤ n) && decide (n < N.claims.length)) = false) :
  Calls Try.prog 52 #[.pointer (some ⟨N.ptr,0,none⟩),.int .i64 n] w fun e w' => e = .returned (.int .i64 3) ∧ w' = w := by
 have HT := Lib.hid (there_ok n h)
 have HH := Lib.hid hn
 clear h hn
 go_enter Try.func52,Try.ntmps52
 go_wp2_with (go_at_call 99; refine HT.out.mono ?_; rw [HH.out]; rintro e w1 ⟨rfl,hw⟩; replace hw := hw.symm; subst hw)
 go_ret
 exact ⟨rfl,rfl⟩
theorem dropM_ptr (P : PlaceM) (n : Int) (x : PropM) : (dropM P n x).ptr = P.ptr := by
 unfold dropM
 split
 ·rfl
 ·rename_i c _
  show (freeM (setProp P n { x with state := 4 }) n (x.claims.take x.granted)).ptr = (setProp P n { x with state := 4 }).ptr
  exact (freeM_same n (x.claims.take x.granted) (setProp P n { x with state := 4 })).1
theorem ndrop_ok {n p : Nat} {P : PlaceM} {x : PropM} (h : NRep tag B w N) (hok : TagOk tag w) (hn : n < N.claims.length) (hh : N.homes[n]? = some (p : Int)) (hp : N.places[p]? = some P) (hx : find P.props n = some x) (hW : WF P)
  (hout : P.out.length ≤ 1000) (hdo : (dropM P n x).out.length ≤ 100000) (hfl : N.flight.length ≤ 19000) (hd : N.decided.length ≤ 100000) (hhist : ∀ j,(N.history.getD j []).length ≤ 100000) :
  Calls Try.prog 52 #[.pointer (some ⟨N.ptr,0,none⟩),.int .i64 (n : Int)] w fun e w' => (x.state ≠ 1 → e = .returned (.int .i64 273) ∧ Fr (fun _ => False) tag tag w w') ∧
   (x.state = 1 → e = .returned (.int .i64 0) ∧ ∃ tag',NRep tag' B w' (dropN N n p P x) ∧ Fr (fun t => t.1 = B ∨ t.1 = B + 1 + p) tag tag' w w') := by
 have HT := Lib.hid (there_ok n h)
 have HP := Lib.hid (h.places p P hp)
 obtain ⟨pv,sv,fv,cv,hv,yv,dv,hc,h2,h3,h4,⟨cvs,h5,h6⟩,h7,⟨yvs,h8,h9⟩,h10⟩ := h.cells
 obtain ⟨PA,pcap,rfl,q1,q2⟩ := h2.form
 obtain ⟨HA,hcap,rfl,q3,q4⟩ := h7.form
 obtain ⟨FA,fcap,rfl,q5,q6⟩ := h4.form
 unfold maxLen at q2 q4 q6
 have hpl := (List.getElem?_eq_some_iff.1 hp).1
 have hhl := (List.getElem?_eq_some_iff.1 hh).1
 obtain ⟨pb,rfl,_,_,hpc⟩ := h2.cell rfl (j:=p) (by simpa using hpl)
 obtain ⟨hb,rfl,_,_,hhc⟩ := h7.cell rfl (j:=n) (by simpa [ints] using hhl)
 have c0 : w.cell? ⟨N.ptr,0,none⟩ = some (.slice (some ⟨pb,0,none⟩) N.places.length pcap) := cell_of hc 0
 have c2 : w.cell? ⟨N.ptr,2,none⟩ = some (.slice FA N.flight.length fcap) := cell_of hc 2
 have c4 : w.cell? ⟨N.ptr,4,none⟩ = some (.slice (some ⟨hb,0,none⟩) N.homes.length hcap) := cell_of hc 4
 have e0 : w.cell? ⟨pb,p,none⟩ = some (.pointer (some ⟨P.ptr,0,none⟩)) := by rw [hpc,List.getElem?_map,hp]; rfl
 have e1 : w.cell? ⟨hb,n,none⟩ = some (.int .i64 (p : Int)) := by rw [hhc,ints,List.getElem?_map,hh]; rfl
 obtain ⟨psv,piv,pov,pcv,phc,_⟩ := HP.out.cells
 have p3 : w.cell? ⟨P.ptr,3,none⟩ = some (.map (some P.pm)) := cell_of phc 3
 have hxm := find_mem hx
 obtain ⟨xv,hxc,hxr⟩ := (HP.out.props _ x hxm).cells
 have x1 : w.cell? ⟨x.ptr,1,none⟩ = some (.int .i64 x.state) := cell_of hxc 1
 have x2 : w.cell? ⟨x.ptr,2,none⟩ = some (.int .i64 x.granted) := cell_of hxc 2
 have hlk : ∀ q,(Instr.lookup 110 (.map (some P.pm)) (.int .i64 (n : Int)) false).run Try.prog (w.drewN q) = .ok (.pointer (some ⟨x.ptr,0,none⟩)) (w.drewN q) := fun q => by
  have := look_prop (HP.out.drewN hok q) (n : Int)
  rw [hx] at this
  exact this
 have hgr : x.granted ≤ 64 := Nat.le_trans (hW.le _ _ hxm) (hW.few _ _ hxm)
 have hth : (decide ((0 : Int) ≤ (n : Int)) && decide ((n : Int) < (N.claims.length : Int))) = true := by simp; omega
 have i1 : (0 : Int) ≤ (n : Int) := by omega
 have i2 : (n : Int) < (N.homes.length : Int) := by omega
 have i3 : (0 : Int) ≤ (p : Int) := by omega
 have i4 : (p : Int) < (N.places.length : Int) := by omega
 have i5 : (x.granted : Int) ≤ 64 := by omega
 have i6 : (0 : Int) ≤ (x.granted : Int) := by omega
 have i7 : (N.flight.length : Int) ≤ 19000 := by omega
 have HSUM : Hid (decide ((20000 : Int) < (N.flight.length : Int) + (x.granted : Int) + 1) = false) := Lib.hid (decide_eq_false (by omega))
 have HWB : Hid (IntKind.i64.wrap ((N.flight.length : Int) + (x.granted : Int) + 1) = (N.flight.length : Int) + (x.granted : Int) + 1) := Lib.hid (wrap_i64 (by omega) (by omega))
 have HWA : Hid (IntKind.i64.wrap ((N.flight.length : Int) + (x.granted : Int)) = (N.flight.length : Int) + (x.granted : Int)) := Lib.hid (wrap_i64 (by omega) (by omega))
 have HTH := Lib.hid hth
 have HX := Lib.hid hx
 have HN := Lib.hid h
 have HW := Lib.hid hW
 have HPP := Lib.hid hp
 have HHI := Lib.hid hhist
 have HLK := Lib.hid hlk
 clear hlk
 clear h hc h2 h3 h4 h5 h6 h7 h8 h9 h10 hpc hhc hp hh hth hx hn hxm hxc hxr phc hW hhist
 by_cases hst : x.state = 1
 ·have HST := Lib.hid hst
  have hs' : (x.state != 1) = false := by rw [hst]; rfl
  rw [hst] at x1
  clear hst hs'
  go_enter Try.func52,Try.ntmps52
  go_wp2_with (go_at_call 99; refine HT.out.mono ?_; rw [HTH.out]; rintro e w1 ⟨rfl,hw⟩; replace hw := hw.symm; subst hw)
  go_quiet (fail)
  have hlk1 := HLK.out nq
  go_wp2_with fail
  clear hlk1
  have hF1 : Fr (fun _ => False) tag tag w (w.drewN nq) := (Fr.refl hok).dN _
  have d2 := hF1.cellF c2
  have y2 := hF1.cellF x2
  generalize w.drewN nq = w1 at hF1 d2 y2 ⊢
  have HF1 := Lib.hid hF1
  have hok1 := hF1.dom
  clear c0 c2 c4 e0 e1 p3 x1 x2 hF1
  have hwa : IntKind.i64.wrap ((N.flight.length : Int) + (x.granted : Int)) = (N.flight.length : Int) + (x.granted : Int) := HWA.out
  have hwb : IntKind.i64.wrap ((N.flight.length : Int) + (x.granted : Int) + 1) = (N.flight.length : Int) + (x.granted : Int) + 1 := HWB.out
  have hsum := HSUM.out
  go_quiet (fail)
  clear hwa hwb hsum d2 y2
  have hF2 : Fr (fun _ => False) tag tag w (w1.drewN nq) := HF1.out.trans ((Fr.refl hok1).dN _)
  generalize w1.drewN nq = w2 at hF2 ⊢
  have HF2 := Lib.hid hF2
  have hok2 := hF2.dom
  clear hF2
  go_wp2_with (first
  | (
   go_at_call 23
   refine (drop_ok (HP.out.fr HF2.out (fun _ _ y => y)) hok2 HW.out HX.out HST.out (by omega)).mono ?_
   rintro e w5 ⟨ov,rfl,tag5,ho,hP5,hF5⟩
   have HO := Lib.hid ho
   have HN5 := Lib.hid ((HN.out.fr HF2.out (fun _ _ _ _ y => y)).set_place HPP.out hF5 hP5 (dropM_ptr P _ _))
   have HF5 := Lib.hid hF5
   clear ho hP5 hF5)
  | (
   go_at_call 102
   refine (ntake_ok (cs := []) HN5.out HF5.out.dom (show B + 1 + p ≠ B by omega) HO.out (Row.nil _ _ _ _ _) (fun c hc => by cases hc) (by show N.flight.length ≤ _; omega) hdo (by simp) hd HHI.out).mono ?_
   rintro e w6 ⟨rfl,tag6,hN6,hF6⟩
   have HN6 := Lib.hid hN6
   have HF6 := Lib.hid hF6
   clear hN6 hF6))
  go_ret
  refine ⟨fun h => absurd HST.out h,fun _ => ⟨rfl,tag6,HN6.out,?_⟩⟩
  exact (((HF2.out.mono (fun t h => h.elim)).trans (HF5.out.mono (fun t h => .inr h))).trans (HF6.out.mono (fun t h => .inl h)))
 ·have HST := Lib.hid hst
  have hs' : (x.state != 1) = true := by rw [bne_iff_ne]; exact hst
  clear hst
  go_enter Try.func52,Try.ntmps52
  go_wp2_with (go_at_call 99; refine HT.out.mono ?_; rw [HTH.out]; rintro e w1 ⟨rfl,hw⟩; replace hw := hw.symm; subst hw)
  go_quiet (fail)
  have hlk1 := HLK.out nq
  go_wp2_with fail
  go_ret
  exact ⟨fun _ => ⟨rfl,(Fr.refl hok).dN _⟩,fun h => absurd h HST.out⟩
end
theorem Try.info34 : (Try.prog.info? 34).map (fun i => (i.zero,i.size,i.bytes)) = some (some (.slice none 0 0),1,24) := by kernel_rfl
section
variable {S : Tag → Prop} {tag tag' : Nat → Tag} {w w' : World} {B : Nat} {N : NetM}
theorem _root_.Go.Ng.Fr.up (h : Fr (fun _ => False) tag tag' w w') : Fr S tag tag' w w' := h.mono (fun _ x => x.elim)
theorem NRep.add_claim (h : NRep tag B w N) (hf : Fr S tag tag' w w') (hS : ∀ t,S t → t = (B,1,0) ∨ t = (B,5,0) ∨ t = (B,7,0)) (l : List Clm) (p : Int)
  {pv0 sv0 fv0 cv0 hv0 yv0 dv0 v cv1 hv1 : Value} {cvs : List Value} (hc : w.heap[N.ptr]? = some (.cells #[pv0,sv0,fv0,cv0,hv0,yv0,dv0] 154 (0,0))) (hcl : cvs.length = N.claims.length)
  (h6 : ∀ (i : Nat) (l : List Clm),N.claims[i]? = some l → ∃ v,cvs[i]? = some v ∧ Row tag (B,6,(i : Int)) 69 2 w v l.length (Ytclkokkppgchfaa.claims l))
  (k1 : w'.heap[N.ptr]? = some (.cells #[pv0,sv0,fv0,cv1,hv1,yv0,dv0] 154 (0,0)))
  (k5 : Row tag' (B,5,0) 34 1 w' cv1 (N.claims.length + 1) (cvs ++ [v])) (k6 : Row tag' (B,6,(N.claims.length : Int)) 69 2 w' v l.length (Ytclkokkppgchfaa.claims l)) (k7 : Row tag' (B,7,0) 3 1 w' hv1 (N.homes.length + 1) (ints (N.homes ++ [p]))) :
  NRep tag' B w' { N with claims := N.claims ++ [l],homes := N.homes ++ [p] } := by
 obtain ⟨pv,sv,fv,cv,hv,yv,dv,h1,h2,h3,h4,_,h7,⟨yvs,h8,h9⟩,h10⟩ := h.cells
 obtain ⟨rfl,rfl,rfl,rfl,rfl,rfl,rfl⟩ : pv0 = pv ∧ sv0 = sv ∧ fv0 = fv ∧ cv0 = cv ∧ hv0 = hv ∧ yv0 = yv ∧ dv0 = dv := by
  have := hc.symm.trans h1
  simpa using this
 have no : ∀ r i,r ≠ 1 → r ≠ 5 → r ≠ 7 → ¬ S (B,r,i) := fun r i a b c hs => by
  rcases hS _ hs with e | e | e <;> simp_all
 refine ⟨h.b0,(hf.tag_eq h1).trans h.tptr,⟨pv0,sv0,fv0,cv1,hv1,yv0,dv0,k1,h2.fr hf (no _ _ (by decide) (by decide) (by decide)),h3.fr hf (no _ _ (by decide) (by decide) (by decide)),h4.fr hf (no _ _ (by decide) (by decide) (by decide)),⟨cvs ++ [v],by simpa using k5,fun i l' hl => ?_⟩,by simpa using k7,⟨yvs,h8.fr hf (no _ _ (by decide) (by decide) (by decide)),fun i l hl => ?_⟩,h10.fr hf (no _ _ (by decide) (by decide) (by decide))⟩,fun i P hP => ?_⟩
 ·have hl' : (N.claims ++ [l])[i]? = some l' := hl
  rw [List.getElem?_append] at hl'
  split at hl'
  ·rename_i hi
   obtain ⟨u,hu,hr⟩ := h6 i l' hl'
   exact ⟨u,by rw [List.getElem?_append_left (by omega)]; exact hu,hr.fr hf (no _ _ (by decide) (by decide) (by decide))⟩
  ·rename_i hi
   have hi' : i = N.claims.length := by
    by_cases e : i - N.claims.length = 0
    ·omega
    ·rw [List.getElem?_eq_none (by simp; omega)] at hl'; cases hl'
   subst hi'
   simp at hl'
   subst hl'
   exact ⟨v,by rw [List.getElem?_append_right (by omega),hcl]; simp,k6⟩
 ·obtain ⟨v,hv,hr⟩ := h9 i l hl
  exact ⟨v,hv,hr.fr hf (no _ _ (by decide) (by decide) (by decide))⟩
 ·refine (h.places i P hP).fr hf (fun r j hs => ?_)
  rcases hS _ hs with e | e | e <;> simp at e <;> omega
end
def MidP (B np : Nat) (tag : Nat → Tag) (w : World) (l : List Clm) (cvs : List Value) (p : Int) (s : Value × Value × Value × Value) (w' : World) : Prop :=
 ∃ (T : Nat → Tag) (A : Option Addr) (cap b15 : Nat),s.2.2.1 = .slice A (np + 1) cap ∧ s.2.2.2 = .slice (some ⟨b15,0,none⟩) 1 1 ∧ Row T (B,5,0) 34 1 w' (.slice A (np + 1) cap) (np + 1) (cvs ++ [s.1]) ∧ Row T (B,6,(np : Int)) 69 2 w' s.1 l.length (claims l) ∧
  w'.heap[b15]? = some (.cells #[.int .i64 p] 3 (0,0)) ∧ (T b15).1 = 0 ∧ Fr (· = (B,5,0)) tag T w w'
theorem proposeM_ptr (P : PlaceM) (n : Int) (l : List Clm) (xp : Nat) : (proposeM P n l xp).ptr = P.ptr := by
 unfold proposeM
 split <;> rfl
theorem npropose_ok {tag : Nat → Tag} {w : World} {B p : Nat} {N : NetM} {P : PlaceM} (l : List Clm) {v : Value} (h : NRep tag B w N) (hok : TagOk tag w) (hp : N.places[p]? = some P) (hr : Rd 2 w v l.length (claims l)) (he : Ext tag w v)
  (hcl : claimedB N.sites.length l = true) (hPs : P.sites.length = N.sites.length) (hf : find P.props N.claims.length = none) (hlen : P.props.length < 4000) (hsl : N.sites.length ≤ 1000) (hPo : P.out = []) (hPc : P.came = [])
  (hnp : N.claims.length ≤ 1000) (hhl : N.homes.length ≤ 1000) (hfl : N.flight.length ≤ 19000) (hll : l.length ≤ 1000) (hd : N.decided.length ≤ 100000) (hhi : ∀ j,(N.history.getD j []).length ≤ 100000) (hout : ∀ xp,(proposeM P N.claims.length l xp).out.length ≤ 1000) :
  Calls Try.prog 55 #[.pointer (some ⟨N.ptr,0,none⟩),.int .i64 (p : Int),v] w fun e w' => ∃ cv,e = .returned (.tuple #[.int .i64 (N.claims.length : Int),cv,.int .i64 0]) ∧ ∃ tag' xp,NRep tag' B w' (proposeN N p P l xp) ∧
   Row tag' (B + 1 + p,6,0) 106 3 w' cv 0 [] ∧ Fr (fun t => t.1 = B ∨ t.1 = B + 1 + p) tag tag' w w' := by
 obtain ⟨i0,hinf,hz0,hz1,hz2⟩ := info_parts Try.info34
 obtain ⟨j0,hjnf,hy0,hy1,hy2⟩ := info_parts Try.info3
 obtain ⟨VA,vcap,rfl,qv1,qv2⟩ := hr.slice
 obtain ⟨pv,sv,fv,xv,hv',yv,dv,hce,h2,h3,h4,⟨cvs,h5,h6⟩,h7,⟨yvs,h8,h9⟩,h10⟩ := h.cells
 obtain ⟨PA,pcap,rfl,q1,q2⟩ := h2.form
 obtain ⟨SA,scap,rfl,q3,q4⟩ := h3.form
 obtain ⟨FA,fcap,rfl,q5,q6⟩ := h4.form
 obtain ⟨CA,ccap,rfl,q7,q8⟩ := h5.form
 obtain ⟨HA,hcap,rfl,q9,q10⟩ := h7.form
 unfold maxLen at q2 q4 q6 q8 q10 qv2
 have hpl := (List.getElem?_eq_some_iff.1 hp).1
 obtain ⟨pb,rfl,_,_,hpc⟩ := h2.cell rfl (j:=p) (by simpa using hpl)
 have c0 : w.cell? ⟨N.ptr,0,none⟩ = some (.slice (some ⟨pb,0,none⟩) N.places.length pcap) := cell_of hce 0
 have c1 : w.cell? ⟨N.ptr,1,none⟩ = some (.slice SA N.sites.length scap) := cell_of hce 1
 have c2 : w.cell? ⟨N.ptr,2,none⟩ = some (.slice FA N.flight.length fcap) := cell_of hce 2
 have c3 : w.cell? ⟨N.ptr,3,none⟩ = some (.slice CA N.claims.length ccap) := cell_of hce 3
 have c4 : w.cell? ⟨N.ptr,4,none⟩ = some (.slice HA N.homes.length hcap) := cell_of hce 4
 have e0 : w.cell? ⟨pb,p,none⟩ = some (.pointer (some ⟨P.ptr,0,none⟩)) := by rw [hpc,List.getElem?_map,hp]; rfl
 have hpb := World.block_lt_of_cell? w _ e0
 have i1 : (0 : Int) ≤ (p : Int) := by omega
 have i2 : (p : Int) < (N.places.length : Int) := by omega
 have i3 : decide ((p : Int) < 0) = false := decide_eq_false (by omega)
 have i4 : (N.claims.length : Int) < 4000 := by omega
 have i5 : (N.flight.length : Int) < 20000 := by omega
 have i6 : decide ((4000 : Int) ≤ (N.claims.length : Int)) = false := decide_eq_false (by omega)
 have i7 : decide ((N.places.length : Int) ≤ (p : Int)) = false := decide_eq_false (by omega)
 have hcvl : cvs.length = N.claims.length := by have := h5.len; omega
 have hn0 := lt_of_heap hce
 have HN := Lib.hid h
 have HCE := Lib.hid hce
 have HP := Lib.hid hp
 have HR := Lib.hid hr
 have HE := Lib.hid he
 have HCL := Lib.hid hcl
 have HPS := Lib.hid hPs
 have HF := Lib.hid hf
 have HHI := Lib.hid hhi
 have HO := Lib.hid hout
 have H5 := Lib.hid h5
 have H6 := Lib.hid h6
 have H7 := Lib.hid h7
 have HPO := Lib.hid hPo
 have HPC := Lib.hid hPc
 have HCV := Lib.hid hcvl
 clear h hce h2 h3 h4 h5 h6 h7 h8 h9 h10 hpc hp hr he hcl hPs hf hhi hout hPo hPc hcvl
 go_enter Try.func55,Try.ntmps55
 go_wp2_with (first
 | (
  go_at_call 69
  refine (claimed_ok N.sites.length SA scap l w HR.out hok (by omega)).mono ?_
  rw [HCL.out]
  rintro e w1 ⟨rfl,hF1⟩
  have d0 := hF1.cellF c0
  have d2 := hF1.cellF c2
  have d3 := hF1.cellF c3
  have d4 := hF1.cellF c4
  have de := hF1.cellF e0
  have HF1 := Lib.hid hF1
  clear hF1 c0 c1 c2 c3 c4 e0)
 | (
  go_at_call 20
  refine (propose_ok (N.claims.length : Int) l ((HN.out.places p P HP.out).fr HF1.out (fun _ _ y => y)) HF1.out.dom (HR.out.frF HF1.out) (by rw [HPS.out]; exact HCL.out) (by omega) (by omega) HF.out hlen (by rw [HPS.out]; omega) (by rw [HPO.out]; simp)).mono ?_
  rintro e w2 ⟨ov,cv,rfl,tag2,xp,ho,hc,hP2,hF2⟩
  have HOV := Lib.hid ho
  have HCV2 := Lib.hid hc
  have HN2 := Lib.hid ((HN.out.fr HF1.out (fun _ _ _ _ y => y)).set_place HP.out hF2 hP2 (proposeM_ptr P _ _ _))
  have HF2 := Lib.hid ((HF1.out.mono (S' := fun t => t.1 = B + 1 + p) (fun _ h => h.elim)).trans hF2)
  clear ho hc hP2 hF2 d0 d2 d3 d4 de))
 have hF2 := HF2.out
 have hce2 := hF2.heap HCE.out (show ¬ (tag N.ptr).1 = B + 1 + p by rw [HN.out.tptr]; simp; omega)
 have c3 : w2.cell? ⟨N.ptr,3,none⟩ = some (.slice CA N.claims.length ccap) := cell_of hce2 3
 have c4 : w2.cell? ⟨N.ptr,4,none⟩ = some (.slice HA N.homes.length hcap) := cell_of hce2 4
 have hok2 := hF2.dom
 have ht2 : tag2 N.ptr = (B,1,0) := (hF2.same _ hn0).trans HN.out.tptr
 have hB0 := HN.out.b0
 have R5 := Lib.hid (H5.out.fr hF2 (by simp; omega))
 have R7 := Lib.hid (H7.out.fr hF2 (by simp; omega))
 have RV := Lib.hid (HR.out.ext HE.out hF2 (fun t h => by omega))
 have HCE2 := Lib.hid hce2
 have HT2 := Lib.hid ht2
 clear hF2 hce2 ht2
 have HG0 : Hid (Fr (fun _ => False) tag2 tag2 w2 w2.drew) := Lib.hid (Fr.drew hok2)
 refine start_ (n:=23) (S:=fun w' => w'.cell? ⟨N.ptr,3,none⟩ = some (.slice CA N.claims.length ccap) ∧ w'.cell? ⟨N.ptr,4,none⟩ = some (.slice HA N.homes.length hcap)) (ds := [19,22]) #[f_,f_,f_,f_,f_,f_,f_,f_,f_,f_,f_,f_,f_,f_,f_,f_,f_,f_,f_,f_,f_,f_,f_] (by kernel_rfl) rfl rfl ⟨c3,c4⟩ (fun hHeld => ?_)
 generalize w2.drew = W0 at HG0 hHeld ⊢
 refine pure_ (i:=0) (N:=some 74) (v:=?_) (a':=?_) #[t_,f_,f_,f_,f_,f_,f_,f_,f_,f_,f_,f_,f_,f_,f_,f_,f_,f_,f_,f_,f_,f_,f_] rfl rfl (by kernel_rfl) (fun _ _ _ h => h) (Or.inl ⟨by rfl,?_⟩) ?_ ?_
 rotate_left;intro w';go_simp;with_reducible rfl;rotate_left;simp only [Act.put,sA_,sB_,sC_,i64_w,i32_w];rfl
 refine pure_ (i:=1) (N:=some 75) (v:=?_) (a':=?_) #[t_,t_,f_,f_,f_,f_,f_,f_,f_,f_,f_,f_,f_,f_,f_,f_,f_,f_,f_,f_,f_,f_,f_] rfl rfl (by kernel_rfl) (fun _ _ _ h => h) (Or.inl ⟨by rfl,?_⟩) ?_ ?_
 rotate_left;intro w';go_simp;with_reducible rfl;rotate_left;simp only [Act.put,sA_,sB_,sC_,i64_w,i32_w];rfl
 refine pure_ (i:=2) (N:=some 76) (v:=?_) (a':=?_) #[t_,t_,t_,f_,f_,f_,f_,f_,f_,f_,f_,f_,f_,f_,f_,f_,f_,f_,f_,f_,f_,f_,f_] rfl rfl (by kernel_rfl) (fun _ _ _ h => h) (Or.inl ⟨by rfl,?_⟩) ?_ ?_
 rotate_left;intro w';go_simp;with_reducible rfl;rotate_left;simp only [Act.put,sA_,sB_,sC_,i64_w,i32_w];rfl
 refine pure_ (i:=3) (N:=some 77) (v:=?_) (a':=?_) #[t_,t_,t_,t_,f_,f_,f_,f_,f_,f_,f_,f_,f_,f_,f_,f_,f_,f_,f_,f_,f_,f_,f_] rfl rfl (by kernel_rfl) (fun _ _ _ h => h) (Or.inl ⟨by rfl,?_⟩) ?_ ?_
 rotate_left;intro w';go_simp;with_reducible rfl;rotate_left;simp only [Act.put,sA_,sB_,sC_,i64_w,i32_w];rfl
 refine pure_ (i:=4) (N:=some 78) (v:=?_) (a':=?_) #[t_,t_,t_,t_,t_,f_,f_,f_,f_,f_,f_,f_,f_,f_,f_,f_,f_,f_,f_,f_,f_,f_,f_] rfl rfl (by kernel_rfl) (fun _ _ _ h => h) (Or.inl ⟨by rfl,?_⟩) ?_ ?_
 rotate_left;intro w';go_simp;with_reducible rfl;rotate_left;simp only [Act.put,sA_,sB_,sC_,i64_w,i32_w];rfl
 refine pure_ (i:=6) (N:=some 80) (v:=?_) (a':=?_) #[t_,t_,t_,t_,t_,f_,t_,f_,f_,f_,f_,f_,f_,f_,f_,f_,f_,f_,f_,f_,f_,f_,f_] rfl rfl (by kernel_rfl) (fun _ _ _ h => h) (Or.inl ⟨by rfl,?_⟩) ?_ ?_
 rotate_left;intro w';go_simp;with_reducible rfl;rotate_left;simp only [Act.put,sA_,sB_,sC_,i64_w,i32_w];rfl
 refine pure_ (i:=10) (N:=some 84) (v:=?_) (a':=?_) #[t_,t_,t_,t_,t_,f_,t_,f_,f_,f_,t_,f_,f_,f_,f_,f_,f_,f_,f_,f_,f_,f_,f_] rfl rfl (by kernel_rfl) (fun _ _ _ h => h) (Or.inl ⟨by rfl,?_⟩) ?_ ?_
 rotate_left;intro w';go_simp;with_reducible rfl;rotate_left;simp only [Act.put,sA_,sB_,sC_,i64_w,i32_w];rfl
 refine pure_ (i:=11) (N:=some 85) (v:=?_) (a':=?_) #[t_,t_,t_,t_,t_,f_,t_,f_,f_,f_,t_,t_,f_,f_,f_,f_,f_,f_,f_,f_,f_,f_,f_] rfl rfl (by kernel_rfl) (fun _ _ _ h => h) (Or.inl ⟨by rfl,?_⟩) ?_ ?_
 rotate_left;intro w';go_simp;with_reducible rfl;rotate_left;simp only [Act.put,sA_,sB_,sC_,i64_w,i32_w];rfl
 refine pure_ (i:=12) (N:=some 86) (v:=?_) (a':=?_) #[t_,t_,t_,t_,t_,f_,t_,f_,f_,f_,t_,t_,t_,f_,f_,f_,f_,f_,f_,f_,f_,f_,f_] rfl rfl (by kernel_rfl) (fun _ _ _ h => h) (Or.inl ⟨by rfl,?_⟩) ?_ ?_
 rotate_left;intro w';go_simp;with_reducible rfl;rotate_left;simp only [Act.put,sA_,sB_,sC_,i64_w,i32_w];rfl
 refine pure_ (i:=14) (N:=some 88) (v:=?_) (a':=?_) #[t_,t_,t_,t_,t_,f_,t_,f_,f_,f_,t_,t_,t_,f_,t_,f_,f_,f_,f_,f_,f_,f_,f_] rfl rfl (by kernel_rfl) (fun _ _ _ h => h) (Or.inl ⟨by rfl,?_⟩) ?_ ?_
 rotate_left;intro w';go_simp;with_reducible rfl;rotate_left;simp only [Act.put,sA_,sB_,sC_,i64_w,i32_w];rfl
 refine take_ (i:=5) (N:=some 79) (v:=?_) (a':=?_) #[t_,t_,t_,t_,t_,t_,t_,f_,f_,f_,t_,t_,t_,f_,t_,f_,f_,f_,f_,f_,f_,f_,f_] rfl rfl (by kernel_rfl) (fun _ _ _ h => h) (Or.inl ⟨by rfl,?_⟩) hHeld ?_ ?_
 rotate_left;rintro w' ⟨s0,s1⟩;go_simp;with_reducible rfl;rotate_left;simp only [Act.put,sA_,sB_,sC_,i64_w,i32_w];rfl
 refine take_ (i:=13) (N:=some 87) (v:=?_) (a':=?_) #[t_,t_,t_,t_,t_,t_,t_,f_,f_,f_,t_,t_,t_,t_,t_,f_,f_,f_,f_,f_,f_,f_,f_] rfl rfl (by kernel_rfl) (fun _ _ _ h => h) (Or.inl ⟨by rfl,?_⟩) hHeld ?_ ?_
 rotate_left;rintro w' ⟨s0,s1⟩;go_simp;with_reducible rfl;rotate_left;simp only [Act.put,sA_,sB_,sC_,i64_w,i32_w];rfl
 refine join_ (σ := Value × Value × Value × Value) 7 #[t_,t_,t_,t_,t_,t_,t_,t_,t_,t_,t_,t_,t_,t_,t_,t_,f_,f_,f_,f_,f_,f_,f_] (fun s => [(81,s.1),(82,s.2.1),(83,s.2.2.1),(89,s.2.2.2)]) (MidP B N.claims.length tag2 w2 l cvs (p : Int)) ?_ ?_
 rotate_left
 ·intro hCont
  refine two_ (i:=7) (j:=15) (Ni := some 81) (Nj := some 89) #[t_,t_,t_,t_,t_,t_,t_,t_,f_,f_,t_,t_,t_,t_,t_,f_,f_,f_,f_,f_,f_,f_,f_] #[t_,t_,t_,t_,t_,t_,t_,f_,f_,f_,t_,t_,t_,t_,t_,t_,f_,f_,f_,f_,f_,f_,f_] rfl rfl rfl rfl (by kernel_rfl) (by decide) (by decide) (fun K hK => ?_) (fun K hK => ?_)
  ·skip
   refine goes_ Try.func70 (by kernel_rfl) rfl #[.slice VA l.length vcap] (by rfl) rfl rfl (by simp only [List.map_toArray,List.map_cons,List.map_nil]; rfl) ?_
   with_reducible refine (clone70_ok (B,6,(N.claims.length : Int)) l.length (claims l) _ (RV.out.keep (fun a u hu => HG0.out.cellF hu)) HG0.out.dom (by omega)).mono ?_
   rintro e W1 ⟨v7,rfl,T1,hrow,hs⟩
   refine ⟨_,rfl,?_⟩
   obtain ⟨A7,cap7,rfl,_,_⟩ := hrow.form
   have HG1 := Lib.hid (HG0.out.trans hs)
   clear hs
   have HV1 := Lib.hid hrow
   clear hrow
   refine hK.out _ _ ⟨HG1.out.cell c3 (fun x => x),HG1.out.cell c4 (fun x => x)⟩ (fun hHeld => ?_)
   clear hK K
   refine norm_ (a':=?_) ?_ ?_
   rotate_left
   ·show Act.put _ (some 81) _ = _
    simp only [Act.put,sA_,sB_,sC_,i64_w,i32_w]
    rfl
   refine two_ (i:=8) (j:=15) (Ni := some 82) (Nj := some 89) #[t_,t_,t_,t_,t_,t_,t_,t_,t_,f_,t_,t_,t_,t_,t_,f_,f_,f_,f_,f_,f_,f_,f_] #[t_,t_,t_,t_,t_,t_,t_,t_,f_,f_,t_,t_,t_,t_,t_,t_,f_,f_,f_,f_,f_,f_,f_] rfl rfl rfl rfl (by kernel_rfl) (by decide) (by decide) (fun K hK => ?_) (fun K hK => ?_)
   ·skip
    refine value_ (w1:=?_) (v:=?_) (by rfl) rfl ?_ ?_
    rotate_left 2
    ·go_simp
     constructor
     ·rfl
     ·rfl
    obtain ⟨W2,hW⟩ : ∃ x,x = World.alloc W1 (.cells #[.slice A7 l.length cap7] 34) := ⟨_,rfl⟩
    rw [← hW]
    obtain ⟨T2,hT⟩ : ∃ x,x = T1 := ⟨_,rfl⟩
    have hs : Fr (fun _ => False) T1 T2 W1 W2 := by rw [hW,hT]; exact Fr.alloc HG1.out.dom _
    have HB2 : Hid (W2.heap[(W1).heap.size]? = some (.cells #[.slice A7 l.length cap7] 34 (0,0))) := Lib.hid (by rw [hW]; exact Go.Ng.heap_alloc_at _ _)
    have HG2 := Lib.hid (HG1.out.trans hs)
    have HV2 := Lib.hid (HV1.out.fr hs (by simp))
    clear hs
    clear hW hT
    refine hK.out _ _ ⟨HG2.out.cell c3 (fun x => x),HG2.out.cell c4 (fun x => x)⟩ (fun hHeld => ?_)
    clear hK K
    refine norm_ (a':=?_) ?_ ?_
    rotate_left
    ·show Act.put _ (some 82) _ = _
     simp only [Act.put,sA_,sB_,sC_,i64_w,i32_w]
     rfl
    refine two_ (i:=9) (j:=15) (Ni := some 83) (Nj := some 89) #[t_,t_,t_,t_,t_,t_,t_,t_,t_,t_,t_,t_,t_,t_,t_,f_,f_,f_,f_,f_,f_,f_,f_] #[t_,t_,t_,t_,t_,t_,t_,t_,t_,f_,t_,t_,t_,t_,t_,t_,f_,f_,f_,f_,f_,f_,f_] rfl rfl rfl rfl (by kernel_rfl) (by decide) (by decide) (fun K hK => ?_) (fun K hK => ?_)
    ·skip
     refine append_arm (by rfl) rfl (.tmp 79) (.tmp 82) 87 rfl (by rfl) (by rfl) (R5.out.fr HG2.out (fun x => x)) HG2.out.dom Try.underlying87 hinf hz0 hz1 hz2 rfl (by decide) [.slice A7 l.length cap7] rfl (news_at HB2.out) (by simp [Value.oneCell']) (by decide) (by unfold maxLen; omega) (by omega) ?_
     intro g9 cap9 W3 T3 hrow hs
     have HG3 := Lib.hid (HG2.out.up.trans hs)
     have HV3 := Lib.hid (HV2.out.fr hs (by simp))
     clear hs
     have HC3 := Lib.hid hrow
     clear hrow
     refine hK.out _ _ ⟨HG3.out.cell c3 (by rw [HT2.out]; simp),HG3.out.cell c4 (by rw [HT2.out]; simp)⟩ (fun hHeld => ?_)
     clear hK K
     refine norm_ (a':=?_) ?_ ?_
     rotate_left
     ·show Act.put _ (some 83) _ = _
      simp only [Act.put,sA_,sB_,sC_,i64_w,i32_w]
      rfl
     refine one_ (i:=15) (N:=some 89) #[t_,t_,t_,t_,t_,t_,t_,t_,t_,t_,t_,t_,t_,t_,t_,t_,f_,f_,f_,f_,f_,f_,f_] rfl rfl (by kernel_rfl) (by decide) (fun K hK => ?_)
     refine value_ (w1:=?_) (v:=?_) (by rfl) rfl ?_ ?_
     rotate_left 2
     ·go_simp
      constructor
      ·rfl
      ·rfl
     obtain ⟨W4,hW⟩ : ∃ x,x = World.alloc W3 (.cells #[.int .i64 (p : Int)] 3) := ⟨_,rfl⟩
     rw [← hW]
     obtain ⟨T4,hT⟩ : ∃ x,x = T3 := ⟨_,rfl⟩
     have hs : Fr (fun _ => False) T3 T4 W3 W4 := by rw [hW,hT]; exact Fr.alloc HG3.out.dom _
     obtain ⟨b15,hb15⟩ : ∃ b,b = (W3).heap.size := ⟨_,rfl⟩
     have HQ4 : Hid (W4.heap[b15]? = some (.cells #[.int .i64 (p : Int)] 3 (0,0))) := Lib.hid (by rw [hW,hb15]; exact Go.Ng.heap_alloc_at _ _)
     have HU4 : Hid ((T4 b15).1 = 0) := Lib.hid (by rw [hT,hb15]; exact HG3.out.dom.new)
     rw [← hb15]
     clear hb15
     have HG4 := Lib.hid (HG3.out.trans hs.up)
     have HV4 := Lib.hid (HV3.out.fr hs (by simp))
     have HC4 := Lib.hid (HC3.out.fr hs (by simp))
     clear hs
     clear hW hT
     refine hK.out _ _ ⟨HG4.out.cell c3 (by rw [HT2.out]; simp),HG4.out.cell c4 (by rw [HT2.out]; simp)⟩ (fun hHeld => ?_)
     clear hK K
     refine norm_ (a':=?_) ?_ ?_
     rotate_left
     ·show Act.put _ (some 89) _ = _
      simp only [Act.put,sA_,sB_,sC_,i64_w,i32_w]
      rfl
     exact norm_ (by simp only [putAll,Act.put,sA_,sB_,sC_]) (hCont (.slice A7 l.length cap7,.slice (some ⟨(W1).heap.size,0,none⟩) 1 1,.slice (some ⟨g9,0,none⟩) (N.claims.length + 1) cap9,.slice (some ⟨b15,0,none⟩) 1 1) _ ⟨T4,_,cap9,b15,rfl,rfl,HC4.out,HV4.out,HQ4.out,HU4.out,HG4.out⟩)
    ·skip
     refine value_ (w1:=?_) (v:=?_) (by rfl) rfl ?_ ?_
     rotate_left 2
     ·go_simp
      constructor
      ·rfl
      ·rfl
     obtain ⟨W3,hW⟩ : ∃ x,x = World.alloc W2 (.cells #[.int .i64 (p : Int)] 3) := ⟨_,rfl⟩
     rw [← hW]
     obtain ⟨T3,hT⟩ : ∃ x,x = T2 := ⟨_,rfl⟩
     have hs : Fr (fun _ => False) T2 T3 W2 W3 := by rw [hW,hT]; exact Fr.alloc HG2.out.dom _
     obtain ⟨b15,hb15⟩ : ∃ b,b = (W2).heap.size := ⟨_,rfl⟩
     have HQ3 : Hid (W3.heap[b15]? = some (.cells #[.int .i64 (p : Int)] 3 (0,0))) := Lib.hid (by rw [hW,hb15]; exact Go.Ng.heap_alloc_at _ _)
     have HU3 : Hid ((T3 b15).1 = 0) := Lib.hid (by rw [hT,hb15]; exact HG2.out.dom.new)
     rw [← hb15]
     clear hb15
     have HG3 := Lib.hid (HG2.out.trans hs)
     have HV3 := Lib.hid (HV2.out.fr hs (by simp))
     have HB3 := Lib.hid (hs.heap HB2.out (by simp))
     clear hs
     clear hW hT
     refine hK.out _ _ ⟨HG3.out.cell c3 (fun x => x),HG3.out.cell c4 (fun x => x)⟩ (fun hHeld => ?_)
     clear hK K
     refine norm_ (a':=?_) ?_ ?_
     rotate_left
     ·show Act.put _ (some 89) _ = _
      simp only [Act.put,sA_,sB_,sC_,i64_w,i32_w]
      rfl
     refine one_ (i:=9) (N:=some 83) #[t_,t_,t_,t_,t_,t_,t_,t_,t_,t_,t_,t_,t_,t_,t_,t_,f_,f_,f_,f_,f_,f_,f_] rfl rfl (by kernel_rfl) (by decide) (fun K hK => ?_)
     refine append_arm (by rfl) rfl (.tmp 79) (.tmp 82) 87 rfl (by rfl) (by rfl) (R5.out.fr HG3.out (fun x => x)) HG3.out.dom Try.underlying87 hinf hz0 hz1 hz2 rfl (by decide) [.slice A7 l.length cap7] rfl (news_at HB3.out) (by simp [Value.oneCell']) (by decide) (by unfold maxLen; omega) (by omega) ?_
     intro g9 cap9 W4 T4 hrow hs
     have HG4 := Lib.hid (HG3.out.up.trans hs)
     have HV4 := Lib.hid (HV3.out.fr hs (by simp))
     have HQ4 := Lib.hid (hs.heap HQ3.out (fun e => by have := HU3.out; simp only [e] at this; exact hB0 this))
     have HU4 : Hid ((T4 b15).1 = 0) := Lib.hid (by rw [hs.same _ (lt_of_heap HQ3.out)]; exact HU3.out)
     clear hs
     have HC4 := Lib.hid hrow
     clear hrow
     refine hK.out _ _ ⟨HG4.out.cell c3 (by rw [HT2.out]; simp),HG4.out.cell c4 (by rw [HT2.out]; simp)⟩ (fun hHeld => ?_)
     clear hK K
     refine norm_ (a':=?_) ?_ ?_
     rotate_left
     ·show Act.put _ (some 83) _ = _
      simp only [Act.put,sA_,sB_,sC_,i64_w,i32_w]
      rfl
     exact norm_ (by simp only [putAll,Act.put,sA_,sB_,sC_]) (hCont (.slice A7 l.length cap7,.slice (some ⟨(W1).heap.size,0,none⟩) 1 1,.slice (some ⟨g9,0,none⟩) (N.claims.length + 1) cap9,.slice (some ⟨b15,0,none⟩) 1 1) _ ⟨T4,_,cap9,b15,rfl,rfl,HC4.out,HV4.out,HQ4.out,HU4.out,HG4.out⟩)
   ·skip
    refine value_ (w1:=?_) (v:=?_) (by rfl) rfl ?_ ?_
    rotate_left 2
    ·go_simp
     constructor
     ·rfl
     ·rfl
    obtain ⟨W2,hW⟩ : ∃ x,x = World.alloc W1 (.cells #[.int .i64 (p : Int)] 3) := ⟨_,rfl⟩
    rw [← hW]
    obtain ⟨T2,hT⟩ : ∃ x,x = T1 := ⟨_,rfl⟩
    have hs : Fr (fun _ => False) T1 T2 W1 W2 := by rw [hW,hT]; exact Fr.alloc HG1.out.dom _
    obtain ⟨b15,hb15⟩ : ∃ b,b = (W1).heap.size := ⟨_,rfl⟩
    have HQ2 : Hid (W2.heap[b15]? = some (.cells #[.int .i64 (p : Int)] 3 (0,0))) := Lib.hid (by rw [hW,hb15]; exact Go.Ng.heap_alloc_at _ _)
    have HU2 : Hid ((T2 b15).1 = 0) := Lib.hid (by rw [hT,hb15]; exact HG1.out.dom.new)
    rw [← hb15]
    clear hb15
    have HG2 := Lib.hid (HG1.out.trans hs)
    have HV2 := Lib.hid (HV1.out.fr hs (by simp))
    clear hs
    clear hW hT
    refine hK.out _ _ ⟨HG2.out.cell c3 (fun x => x),HG2.out.cell c4 (fun x => x)⟩ (fun hHeld => ?_)
    clear hK K
    refine norm_ (a':=?_) ?_ ?_
    rotate_left
    ·show Act.put _ (some 89) _ = _
     simp only [Act.put,sA_,sB_,sC_,i64_w,i32_w]
     rfl
    refine one_ (i:=8) (N:=some 82) #[t_,t_,t_,t_,t_,t_,t_,t_,t_,f_,t_,t_,t_,t_,t_,t_,f_,f_,f_,f_,f_,f_,f_] rfl rfl (by kernel_rfl) (by decide) (fun K hK => ?_)
    refine value_ (w1:=?_) (v:=?_) (by rfl) rfl ?_ ?_
    rotate_left 2
    ·go_simp
     constructor
     ·rfl
     ·rfl
    obtain ⟨W3,hW⟩ : ∃ x,x = World.alloc W2 (.cells #[.slice A7 l.length cap7] 34) := ⟨_,rfl⟩
    rw [← hW]
    obtain ⟨T3,hT⟩ : ∃ x,x = T2 := ⟨_,rfl⟩
    have hs : Fr (fun _ => False) T2 T3 W2 W3 := by rw [hW,hT]; exact Fr.alloc HG2.out.dom _
    have HB3 : Hid (W3.heap[(W2).heap.size]? = some (.cells #[.slice A7 l.length cap7] 34 (0,0))) := Lib.hid (by rw [hW]; exact Go.Ng.heap_alloc_at _ _)
    have HG3 := Lib.hid (HG2.out.trans hs)
    have HV3 := Lib.hid (HV2.out.fr hs (by simp))
    have HQ3 := Lib.hid (hs.heap HQ2.out (by simp))
    have HU3 : Hid ((T3 b15).1 = 0) := Lib.hid (by rw [hs.same _ (lt_of_heap HQ2.out)]; exact HU2.out)
    clear hs
    clear hW hT
    refine hK.out _ _ ⟨HG3.out.cell c3 (fun x => x),HG3.out.cell c4 (fun x => x)⟩ (fun hHeld => ?_)
    clear hK K
    refine norm_ (a':=?_) ?_ ?_
    rotate_left
    ·show Act.put _ (some 82) _ = _
     simp only [Act.put,sA_,sB_,sC_,i64_w,i32_w]
     rfl
    refine one_ (i:=9) (N:=some 83) #[t_,t_,t_,t_,t_,t_,t_,t_,t_,t_,t_,t_,t_,t_,t_,t_,f_,f_,f_,f_,f_,f_,f_] rfl rfl (by kernel_rfl) (by decide) (fun K hK => ?_)
    refine append_arm (by rfl) rfl (.tmp 79) (.tmp 82) 87 rfl (by rfl) (by rfl) (R5.out.fr HG3.out (fun x => x)) HG3.out.dom Try.underlying87 hinf hz0 hz1 hz2 rfl (by decide) [.slice A7 l.length cap7] rfl (news_at HB3.out) (by simp [Value.oneCell']) (by decide) (by unfold maxLen; omega) (by omega) ?_
    intro g9 cap9 W4 T4 hrow hs
    have HG4 := Lib.hid (HG3.out.up.trans hs)
    have HV4 := Lib.hid (HV3.out.fr hs (by simp))
    have HQ4 := Lib.hid (hs.heap HQ3.out (fun e => by have := HU3.out; simp only [e] at this; exact hB0 this))
    have HU4 : Hid ((T4 b15).1 = 0) := Lib.hid (by rw [hs.same _ (lt_of_heap HQ3.out)]; exact HU3.out)
    clear hs
    have HC4 := Lib.hid hrow
    clear hrow
    refine hK.out _ _ ⟨HG4.out.cell c3 (by rw [HT2.out]; simp),HG4.out.cell c4 (by rw [HT2.out]; simp)⟩ (fun hHeld => ?_)
    clear hK K
    refine norm_ (a':=?_) ?_ ?_
    rotate_left
    ·show Act.put _ (some 83) _ = _
     simp only [Act.put,sA_,sB_,sC_,i64_w,i32_w]
     rfl
    exact norm_ (by simp only [putAll,Act.put,sA_,sB_,sC_]) (hCont (.slice A7 l.length cap7,.slice (some ⟨(W2).heap.size,0,none⟩) 1 1,.slice (some ⟨g9,0,none⟩) (N.claims.length + 1) cap9,.slice (some ⟨b15,0,none⟩) 1 1) _ ⟨T4,_,cap9,b15,rfl,rfl,HC4.out,HV4.out,HQ4.out,HU4.out,HG4.out⟩)
  ·skip
   refine value_ (w1:=?_) (v:=?_) (by rfl) rfl ?_ ?_
   rotate_left 2
   ·go_simp
    constructor
    ·rfl
    ·rfl
   obtain ⟨W1,hW⟩ : ∃ x,x = World.alloc W0 (.cells #[.int .i64 (p : Int)] 3) := ⟨_,rfl⟩
   rw [← hW]
   obtain ⟨T1,hT⟩ : ∃ x,x = tag2 := ⟨_,rfl⟩
   have hs : Fr (fun _ => False) tag2 T1 W0 W1 := by rw [hW,hT]; exact Fr.alloc HG0.out.dom _
   obtain ⟨b15,hb15⟩ : ∃ b,b = (W0).heap.size := ⟨_,rfl⟩
   have HQ1 : Hid (W1.heap[b15]? = some (.cells #[.int .i64 (p : Int)] 3 (0,0))) := Lib.hid (by rw [hW,hb15]; exact Go.Ng.heap_alloc_at _ _)
   have HU1 : Hid ((T1 b15).1 = 0) := Lib.hid (by rw [hT,hb15]; exact HG0.out.dom.new)
   rw [← hb15]
   clear hb15
   have HG1 := Lib.hid (HG0.out.trans hs)
   clear hs
   clear hW hT
   refine hK.out _ _ ⟨HG1.out.cell c3 (fun x => x),HG1.out.cell c4 (fun x => x)⟩ (fun hHeld => ?_)
   clear hK K
   refine norm_ (a':=?_) ?_ ?_
   rotate_left
   ·show Act.put _ (some 89) _ = _
    simp only [Act.put,sA_,sB_,sC_,i64_w,i32_w]
    rfl
   refine one_ (i:=7) (N:=some 81) #[t_,t_,t_,t_,t_,t_,t_,t_,f_,f_,t_,t_,t_,t_,t_,t_,f_,f_,f_,f_,f_,f_,f_] rfl rfl (by kernel_rfl) (by decide) (fun K hK => ?_)
   refine goes_ Try.func70 (by kernel_rfl) rfl #[.slice VA l.length vcap] (by rfl) rfl rfl (by simp only [List.map_toArray,List.map_cons,List.map_nil]; rfl) ?_
   with_reducible refine (clone70_ok (B,6,(N.claims.length : Int)) l.length (claims l) _ (RV.out.keep (fun a u hu => HG1.out.cellF hu)) HG1.out.dom (by omega)).mono ?_
   rintro e W2 ⟨v7,rfl,T2,hrow,hs⟩
   refine ⟨_,rfl,?_⟩
   obtain ⟨A7,cap7,rfl,_,_⟩ := hrow.form
   have HG2 := Lib.hid (HG1.out.trans hs)
   have HQ2 := Lib.hid (hs.heap HQ1.out (by simp))
   have HU2 : Hid ((T2 b15).1 = 0) := Lib.hid (by rw [hs.same _ (lt_of_heap HQ1.out)]; exact HU1.out)
   clear hs
   have HV2 := Lib.hid hrow
   clear hrow
   refine hK.out _ _ ⟨HG2.out.cell c3 (fun x => x),HG2.out.cell c4 (fun x => x)⟩ (fun hHeld => ?_)
   clear hK K
   refine norm_ (a':=?_) ?_ ?_
   rotate_left
   ·show Act.put _ (some 81) _ = _
    simp only [Act.put,sA_,sB_,sC_,i64_w,i32_w]
    rfl
   refine one_ (i:=8) (N:=some 82) #[t_,t_,t_,t_,t_,t_,t_,t_,t_,f_,t_,t_,t_,t_,t_,t_,f_,f_,f_,f_,f_,f_,f_] rfl rfl (by kernel_rfl) (by decide) (fun K hK => ?_)
   refine value_ (w1:=?_) (v:=?_) (by rfl) rfl ?_ ?_
   rotate_left 2
   ·go_simp
    constructor
    ·rfl
    ·rfl
   obtain ⟨W3,hW⟩ : ∃ x,x = World.alloc W2 (.cells #[.slice A7 l.length cap7] 34) := ⟨_,rfl⟩
   rw [← hW]
   obtain ⟨T3,hT⟩ : ∃ x,x = T2 := ⟨_,rfl⟩
   have hs : Fr (fun _ => False) T2 T3 W2 W3 := by rw [hW,hT]; exact Fr.alloc HG2.out.dom _
   have HB3 : Hid (W3.heap[(W2).heap.size]? = some (.cells #[.slice A7 l.length cap7] 34 (0,0))) := Lib.hid (by rw [hW]; exact Go.Ng.heap_alloc_at _ _)
   have HG3 := Lib.hid (HG2.out.trans hs)
   have HV3 := Lib.hid (HV2.out.fr hs (by simp))
   have HQ3 := Lib.hid (hs.heap HQ2.out (by simp))
   have HU3 : Hid ((T3 b15).1 = 0) := Lib.hid (by rw [hs.same _ (lt_of_heap HQ2.out)]; exact HU2.out)
   clear hs
   clear hW hT
   refine hK.out _ _ ⟨HG3.out.cell c3 (fun x => x),HG3.out.cell c4 (fun x => x)⟩ (fun hHeld => ?_)
   clear hK K
   refine norm_ (a':=?_) ?_ ?_
   rotate_left
   ·show Act.put _ (some 82) _ = _
    simp only [Act.put,sA_,sB_,sC_,i64_w,i32_w]
    rfl
   refine one_ (i:=9) (N:=some 83) #[t_,t_,t_,t_,t_,t_,t_,t_,t_,t_,t_,t_,t_,t_,t_,t_,f_,f_,f_,f_,f_,f_,f_] rfl rfl (by kernel_rfl) (by decide) (fun K hK => ?_)
   refine append_arm (by rfl) rfl (.tmp 79) (.tmp 82) 87 rfl (by rfl) (by rfl) (R5.out.fr HG3.out (fun x => x)) HG3.out.dom Try.underlying87 hinf hz0 hz1 hz2 rfl (by decide) [.slice A7 l.length cap7] rfl (news_at HB3.out) (by simp [Value.oneCell']) (by decide) (by unfold maxLen; omega) (by omega) ?_
   intro g9 cap9 W4 T4 hrow hs
   have HG4 := Lib.hid (HG3.out.up.trans hs)
   have HV4 := Lib.hid (HV3.out.fr hs (by simp))
   have HQ4 := Lib.hid (hs.heap HQ3.out (fun e => by have := HU3.out; simp only [e] at this; exact hB0 this))
   have HU4 : Hid ((T4 b15).1 = 0) := Lib.hid (by rw [hs.same _ (lt_of_heap HQ3.out)]; exact HU3.out)
   clear hs
   have HC4 := Lib.hid hrow
   clear hrow
   refine hK.out _ _ ⟨HG4.out.cell c3 (by rw [HT2.out]; simp),HG4.out.cell c4 (by rw [HT2.out]; simp)⟩ (fun hHeld => ?_)
   clear hK K
   refine norm_ (a':=?_) ?_ ?_
   rotate_left
   ·show Act.put _ (some 83) _ = _
    simp only [Act.put,sA_,sB_,sC_,i64_w,i32_w]
    rfl
   exact norm_ (by simp only [putAll,Act.put,sA_,sB_,sC_]) (hCont (.slice A7 l.length cap7,.slice (some ⟨(W2).heap.size,0,none⟩) 1 1,.slice (some ⟨g9,0,none⟩) (N.claims.length + 1) cap9,.slice (some ⟨b15,0,none⟩) 1 1) _ ⟨T4,_,cap9,b15,rfl,rfl,HC4.out,HV4.out,HQ4.out,HU4.out,HG4.out⟩)
 rintro ⟨v7,v8,v9,v15⟩ wm ⟨Tm,Am,capm,b15,h9,h15,hrc,hrv,hq,hu,hg⟩
 simp only at h9 h15
 subst h9 h15
 have HRC := Lib.hid hrc
 have HRV := Lib.hid hrv
 have HQ := Lib.hid hq
 have HU := Lib.hid hu
 have HG := Lib.hid hg
 clear hrc hrv hq hu hg
 have hHeld := And.intro (HG.out.cell c3 (by rw [HT2.out]; simp)) (HG.out.cell c4 (by rw [HT2.out]; simp))
 refine norm_ (a':=?_) ?_ ?_
 rotate_left
 ·simp only [putAll,Act.put,sA_,sB_,sC_]
  rfl
 refine one_ (i:=16) (N:=some 90) #[t_,t_,t_,t_,t_,t_,t_,t_,t_,t_,t_,t_,t_,t_,t_,t_,t_,f_,f_,f_,f_,f_,f_] rfl rfl (by kernel_rfl) (by decide) (fun K hK => ?_)
 refine append_arm (by rfl) rfl (.tmp 87) (.tmp 89) 22 rfl (by rfl) (by rfl) (R7.out.fr HG.out (by simp)) HG.out.dom Try.underlying22 hjnf hy0 hy1 hy2 rfl (by decide) [.int .i64 (p : Int)] rfl (news_at HQ.out) (by simp [Value.oneCell']) (by decide) (by unfold maxLen; omega) (by omega) ?_
 intro g16 cap16 w16 T16 hrow hs
 have HR16 := Lib.hid hrow
 have HS16 := Lib.hid hs
 have hce16 := hs.heap (HG.out.heap HCE2.out (by rw [HT2.out]; simp)) (by rw [HG.out.same _ (lt_of_heap HCE2.out),HT2.out]; simp)
 have HCE16 := Lib.hid hce16
 have m3 : w16.cell? ⟨N.ptr,3,none⟩ = some (.slice CA N.claims.length ccap) := cell_of hce16 3
 have m4 : w16.cell? ⟨N.ptr,4,none⟩ = some (.slice HA N.homes.length hcap) := cell_of hce16 4
 have fz := free_of hce16
 have f3 := fz 3
 have f4 := fz 4
 clear hrow hs hce16 fz
 refine hK.out _ _ ⟨m3,m4⟩ (fun hHeld => ?_)
 clear hK K
 refine norm_ (a':=?_) ?_ ?_
 rotate_left
 ·show Act.put _ (some 90) _ = _
  simp only [Act.put,sA_,sB_,sC_,i64_w,i32_w]
  rfl
 refine pure_ (i:=17) (N:=some 91) (v:=?_) (a':=?_) #[t_,t_,t_,t_,t_,t_,t_,t_,t_,t_,t_,t_,t_,t_,t_,t_,t_,t_,f_,f_,f_,f_,f_] rfl rfl (by kernel_rfl) (fun _ _ _ h => h) (Or.inl ⟨by rfl,?_⟩) ?_ ?_
 rotate_left;intro w';go_simp;with_reducible rfl;rotate_left;simp only [Act.put,sA_,sB_,sC_,i64_w,i32_w];rfl
 refine pure_ (i:=18) (N:=some 92) (v:=?_) (a':=?_) #[t_,t_,t_,t_,t_,t_,t_,t_,t_,t_,t_,t_,t_,t_,t_,t_,t_,t_,t_,f_,f_,f_,f_] rfl rfl (by kernel_rfl) (fun _ _ _ h => h) (Or.inl ⟨by rfl,?_⟩) ?_ ?_
 rotate_left;intro w';go_simp;with_reducible rfl;rotate_left;simp only [Act.put,sA_,sB_,sC_,i64_w,i32_w];rfl
 refine last_ (i:=19) (N:=none) #[t_,t_,t_,t_,t_,t_,t_,t_,t_,t_,t_,t_,t_,t_,t_,t_,t_,t_,t_,t_,f_,f_,f_] rfl rfl (by kernel_rfl) (by decide) (fun K hK => ?_)
 refine skip_ (w1:=?_) (by rfl) rfl ?_ ?_
 rotate_left
 ·go_simp
  rfl
 refine hK.out _ _ ?_
 clear hK K
 refine pure_ (i:=20) (N:=some 93) (v:=?_) (a':=?_) #[t_,t_,t_,t_,t_,t_,t_,t_,t_,t_,t_,t_,t_,t_,t_,t_,t_,t_,t_,t_,t_,f_,f_] rfl rfl (by kernel_rfl) (fun _ _ _ h => h) (Or.inl ⟨by rfl,?_⟩) ?_ ?_
 rotate_left;intro w';go_simp;with_reducible rfl;rotate_left;simp only [Act.put,sA_,sB_,sC_,i64_w,i32_w];rfl
 refine pure_ (i:=21) (N:=some 94) (v:=?_) (a':=?_) #[t_,t_,t_,t_,t_,t_,t_,t_,t_,t_,t_,t_,t_,t_,t_,t_,t_,t_,t_,t_,t_,t_,f_] rfl rfl (by kernel_rfl) (fun _ _ _ h => h) (Or.inl ⟨by rfl,?_⟩) ?_ ?_
 rotate_left;intro w';go_simp;with_reducible rfl;rotate_left;simp only [Act.put,sA_,sB_,sC_,i64_w,i32_w];rfl
 refine last_ (i:=22) (N:=none) #[t_,t_,t_,t_,t_,t_,t_,t_,t_,t_,t_,t_,t_,t_,t_,t_,t_,t_,t_,t_,t_,t_,t_] rfl rfl (by kernel_rfl) (by decide) (fun K hK => ?_)
 refine skip_ (w1:=?_) (by rfl) rfl ?_ ?_
 rotate_left
 ·go_simp
  rfl
 refine hK.out _ _ ?_
 clear hK K
 refine done_ (by kernel_rfl) ?_
 clear hHeld
 obtain ⟨wz,hwz⟩ : ∃ wz,wz = (w16.setCell ⟨N.ptr,3,none⟩ (.slice Am (N.claims.length + 1) capm)).setCell ⟨N.ptr,4,none⟩ (.slice (some ⟨g16,0,none⟩) (N.homes.length + 1) cap16) := ⟨_,rfl⟩
 rw [← hwz]
 have ht16 : T16 N.ptr = (B,1,0) := (HS16.out.same _ (Nat.lt_of_lt_of_le (lt_of_heap HCE2.out) HG.out.size)).trans ((HG.out.same _ (lt_of_heap HCE2.out)).trans HT2.out)
 have hFs1 : Fr (· = (B,1,0)) T16 T16 w16 (w16.setCell ⟨N.ptr,3,none⟩ (.slice Am (N.claims.length + 1) capm)) := Fr.setCell HS16.out.dom (a := ⟨N.ptr,3,none⟩) ht16 _
 have hFs2 : Fr (· = (B,1,0)) T16 T16 (w16.setCell ⟨N.ptr,3,none⟩ (.slice Am (N.claims.length + 1) capm)) wz := by rw [hwz]; exact Fr.setCell hFs1.dom (a := ⟨N.ptr,4,none⟩) ht16 _
 have hFs := hFs1.trans hFs2
 have hFz : Fr (fun t => t = (B,1,0) ∨ t = (B,5,0) ∨ t = (B,7,0)) tag2 T16 w2 wz := ((HG.out.mono (fun _ h => .inr (.inl h))).trans (HS16.out.mono (fun _ h => .inr (.inr h)))).trans (hFs.mono (fun _ h => .inl h))
 have hNz : NRep T16 B wz { N with places := N.places.set p { proposeM P N.claims.length l xp with out := [],came := [] },claims := N.claims ++ [l],homes := N.homes ++ [(p : Int)] } := by
  refine HN2.out.add_claim hFz (fun _ h => h) l p HCE2.out HCV.out ?_ (cv1 := .slice Am (N.claims.length + 1) capm) (hv1 := .slice (some ⟨g16,0,none⟩) (N.homes.length + 1) cap16) (v:=v7) ?_ ?_ ?_ ?_
  ·intro i l' hl'
   obtain ⟨u,hu,hr⟩ := H6.out i l' hl'
   exact ⟨u,hu,hr.fr HF2.out (by simp; omega)⟩
  ·rw [hwz,Go.Ng.heap_setCell_same (Go.Ng.heap_setCell_same HCE16.out _ _)]; rfl
  ·exact (HRC.out.fr HS16.out (by simp)).fr hFs (by simp)
  ·exact (HRV.out.fr HS16.out (by simp)).fr hFs (by simp)
  ·rw [ints_snoc]; exact HR16.out.fr hFs (by simp)
 have HNZ := Lib.hid hNz
 have HFZ := Lib.hid hFz
 clear hwz ht16 hFs1 hFs2 hFs hFz hNz m3 m4 f3 f4 c3 c4
 have HC0 : Hid (Row T16 (B + 1 + p,6,0) 106 3 wz cv 0 []) := Lib.hid (by
  have h := HCV2.out
  rw [HPC.out] at h
  exact h.fr HFZ.out (by simp))
 have HO0 := Lib.hid (HOV.out.fr HFZ.out (by simp; omega))
 have ho64 := HO.out xp
 go_wp2_with (
  go_at_call 102
  go_loud (refine (ntake_ok (cs := []) HNZ.out HFZ.out.dom (show B + 1 + p ≠ B by omega) HO0.out HC0.out (fun c hc => by cases hc) (by show N.flight.length ≤ _; omega) (by omega) (by simp) hd HHI.out).mono ?_)
  rintro e w6 ⟨rfl,tag6,hN6,hF6⟩
  have HN6 := Lib.hid hN6
  have HC6 : Hid (Row tag6 (B + 1 + p,6,0) 106 3 w6 cv 0 []) := Lib.hid (HC0.out.fr hF6 (by simp; omega))
  have HF6 := Lib.hid hF6
  clear hN6 hF6)
 go_ret3
 exact ⟨cv,rfl,tag6,xp,HN6.out,HC6.out,((HF2.out.mono (fun t h => .inr h)).trans (HFZ.out.mono (fun t h => by rcases h with h | h | h <;> rw [h] <;> exact .inl rfl))).trans (HF6.out.mono (fun t h => .inl h))⟩
section
variable {tag : Nat → Tag} {w : World} {B : Nat} {N : NetM} {g : G}
theorem npropose_place (h : NRep tag B w N) (n : Int) (v : Value) (hn : n < 0 ∨ (N.places.length : Int) ≤ n) :
  Calls Try.prog 55 #[.pointer (some ⟨N.ptr,0,none⟩),.int .i64 n,v] w fun e w' => e = .returned (.tuple #[.int .i64 0,.slice none 0 0,.int .i64 271]) ∧ w' = w := by
 obtain ⟨pv,sv,fv,xv,hv',yv,dv,hce,h2,h3,h4,_⟩ := h.cells
 obtain ⟨PA,pcap,rfl,q1,q2⟩ := h2.form
 have c0 : w.cell? ⟨N.ptr,0,none⟩ = some (.slice PA N.places.length pcap) := cell_of hce 0
 clear h hce h2 h3 h4
 by_cases h0 : n < 0
 ·have h1 : decide (n < 0) = true := by simpa using h0
  clear hn h0
  go_enter Try.func55,Try.ntmps55
  go_wp2
  go_ret3
  exact ⟨rfl,rfl⟩
 ·have h1 : decide (n < 0) = false := by simpa using h0
  have h2 : (N.places.length : Int) ≤ n := by omega
  clear hn h0
  go_enter Try.func55,Try.ntmps55
  go_wp2
  go_ret3
  exact ⟨rfl,rfl⟩
theorem npropose_bad (h : NRep tag B w N) (hok : TagOk tag w) {p : Nat} {l : List Clm} {v : Value} (hp : p < N.places.length) (hs : N.sites.length ≤ 1000) (hr : Rd 2 w v l.length (claims l)) (hcl : claimedB N.sites.length l = false) :
  Calls Try.prog 55 #[.pointer (some ⟨N.ptr,0,none⟩),.int .i64 (p : Int),v] w fun e w' => e = .returned (.tuple #[.int .i64 0,.slice none 0 0,.int .i64 270]) ∧ Fr (fun _ => False) tag tag w w' := by
 obtain ⟨pv,sv,fv,xv,hv',yv,dv,hce,h2,h3,h4,_⟩ := h.cells
 obtain ⟨PA,pcap,rfl,q1,q2⟩ := h2.form
 obtain ⟨SA,scap,rfl,q3,q4⟩ := h3.form
 have c0 : w.cell? ⟨N.ptr,0,none⟩ = some (.slice PA N.places.length pcap) := cell_of hce 0
 have c1 : w.cell? ⟨N.ptr,1,none⟩ = some (.slice SA N.sites.length scap) := cell_of hce 1
 have HR := Lib.hid hr
 have HCL := Lib.hid hcl
 have i1 : (0 : Int) ≤ (p : Int) := by omega
 have i2 : (p : Int) < (N.places.length : Int) := by omega
 have i3 : decide ((p : Int) < 0) = false := decide_eq_false (by omega)
 have i7 : decide ((N.places.length : Int) ≤ (p : Int)) = false := decide_eq_false (by omega)
 clear h hce h2 h3 h4 hr hcl
 go_enter Try.func55,Try.ntmps55
 go_wp2_with (
  go_at_call 69
  refine (claimed_ok N.sites.length SA scap l w HR.out hok (by omega)).mono ?_
  rw [HCL.out]
  rintro e w1 ⟨rfl,hF1⟩
  have HF1 := Lib.hid hF1
  clear hF1)
 go_ret3
 exact ⟨rfl,HF1.out⟩
end
theorem okFrom_le {n : Nat} : ∀ {l : List Clm} {last : Int},okFrom n last l = true → (∀ c ∈ l,last < c.item ∧ c.item < n ∧ 0 ≤ c.version) ∧ ∀ (i i' : Nat) (j j' : Int),(l[i]?.map (·.item)) = some j → (l[i']?.map (·.item)) = some j' → i < i' → j < j'
 | [],last,_ => ⟨by simp,by simp⟩
 | c :: l,last,h => by
  simp only [okFrom,Bool.and_eq_true,decide_eq_true_eq] at h
  obtain ⟨⟨⟨h1,h2⟩,h3⟩,h4⟩ := h
  obtain ⟨h5,h6⟩ := okFrom_le h4
  refine ⟨?_,?_⟩
  ·intro d hd
   rcases List.mem_cons.1 hd with rfl | hd
   ·exact ⟨h1,h2,h3⟩
   ·have := h5 d hd; omega
  ·intro i i' j j' hi hi' hlt
   obtain ⟨k,rfl⟩ : ∃ k,i' = k + 1 := ⟨i' - 1,by omega⟩
   rw [List.getElem?_cons_succ] at hi'
   cases i with
   | zero =>
    simp at hi
    subst hi
    rw [Option.map_eq_some_iff] at hi'
    obtain ⟨d,hd,rfl⟩ := hi'
    exact (h5 d (List.mem_of_getElem? hd)).1
   | succ i =>
    rw [List.getElem?_cons_succ] at hi
    exact h6 i k j j' hi hi' (by omega)
theorem claimed_of {n : Nat} {l : List Clm} (h : claimedB n l = true) : ClaimsOk n l := by
 simp only [claimedB,Bool.and_eq_true,decide_eq_true_eq] at h
 obtain ⟨⟨h1,h2⟩,h3⟩ := h
 obtain ⟨h4,h5⟩ := okFrom_le h3
 exact ⟨⟨h1,h2⟩,fun c hc => by have := h4 c hc; omega,h5⟩
theorem claimed_head {n : Nat} {l : List Clm} (h : claimedB n l = true) : ∃ c,l[0]? = some c := by
 simp only [claimedB,Bool.and_eq_true,decide_eq_true_eq] at h
 exact ⟨_,List.getElem?_eq_getElem (by omega)⟩
def doP (g : G) (n : Int) (l : List Clm) : G × Int × List Came × Int :=
 if n < 0 ∨ (g.places : Int) ≤ n then (g,0,[],271)
 else if claimedB g.n l = false then (g,0,[],270)
 else match l[0]? with
 | some c => (g.proposeG n l c,g.np,[],0)
 | none => (g,0,[],270)
def doD (g : G) (n : Int) : G × Int × List Came × Int :=
 if n < 0 ∨ (g.np : Int) ≤ n then (g,0,[],3)
 else if (g.props n).st ≠ 1 then (g,0,[],273)
 else (g.dropG n,0,[],0)
def doL (g : G) (n : Int) : G × Int × List Came × Int :=
 if n < 0 ∨ (g.fl.length : Int) ≤ n then (g,0,[],272)
 else match g.fl[n.toNat]? with
 | some m => (g.deliverG n.toNat m,0,(g.takeG m).2.2,0)
 | none => (g,0,[],272)
def doB (g : G) (n : Int) : G × Int × List Came × Int :=
 if n < 0 ∨ (g.fl.length : Int) ≤ n then (g,0,[],272)
 else match g.fl[n.toNat]? with
 | some m => ({ g with fl := g.fl ++ [m] },0,[],0)
 | none => (g,0,[],272)
def doG (g : G) (o : OpM) : G × Int × List Came × Int :=
 if o.kind = 0 then doP g o.n o.claims else if o.kind = 1 then doD g o.n else if o.kind = 2 then doL g o.n else if o.kind = 3 then doB g o.n else (g,0,[],0)
structure Live (tag : Nat → Tag) (B : Nat) (w : World) (N : NetM) (g : G) (k : Nat) : Prop where
 rep : NRep tag B w N
 abs : Abs N g
 good : NGood g
 np : g.np ≤ k
 wt : W1.all g ≤ 65 * k
 ok : TagOk tag w
section
variable {tag : Nat → Tag} {w : World} {B : Nat} {N : NetM} {g : G} {k : Nat}
theorem Live.small (L : Live tag B w N g k) (hk : k ≤ 150) : Small g := ⟨by have := L.np; omega,by have := L.wt; omega⟩
theorem Live.fl_len (L : Live tag B w N g k) (hk : k ≤ 150) : N.flight.length ≤ 9750 := by
 rw [L.abs.fl]; have := fl_le g; have := L.wt; omega
theorem Live.fr {S : Tag → Prop} {tag' : Nat → Tag} {w' : World} (L : Live tag B w N g k) (hf : Fr S tag tag' w w') (hS : ∀ t,S t → t.1 < B ∨ B + 32 < t.1) : Live tag' B w' N g k := by
 refine ⟨L.rep.fr hf (fun i r j hi hs => ?_),L.abs,L.good,L.np,L.wt,hf.dom⟩
 have := hS _ hs
 have := L.abs.p32
 rw [L.abs.plen] at hi
 omega
theorem Live.frF {tag' : Nat → Tag} {w' : World} (L : Live tag B w N g k) (hf : Fr (fun _ => False) tag tag' w w') : Live tag' B w' N g k := L.fr hf (fun _ h => h.elim)
theorem Live.more (L : Live tag B w N g k) {k' : Nat} (h : k ≤ k') : Live tag B w N g k' := ⟨L.rep,L.abs,L.good,by have := L.np; omega,by have := L.wt; have := Nat.mul_le_mul_left 65 h; omega,L.ok⟩
def Did (tag : Nat → Tag) (B : Nat) (w : World) (N : NetM) (k : Nat) (r : G × Int × List Came × Int) (cv : Value) (w' : World) : Prop :=
 ∃ (tag' : Nat → Tag) (N' : NetM),Live tag' B w' N' r.1 k ∧ N'.ptr = N.ptr ∧ Rd 3 w' cv r.2.2.1.length (cames r.2.2.1) ∧ Fr (fun t => B ≤ t.1 ∧ t.1 ≤ B + 32) tag tag' w w'
theorem Live.idle (L : Live tag B w N g k) {w' : World} (hf : Fr (fun _ => False) tag tag w w') (r e : Int) : Did tag B w N (k + 1) (g,r,[],e) (.slice none 0 0) w' :=
 ⟨tag,N,(L.frF hf).more (Nat.le_succ k),rfl,⟨rfl,by simp [cames],.inl ⟨rfl,rfl⟩⟩,hf.mono (fun _ h => h.elim)⟩
theorem live_propose {n : Int} {l : List Clm} {v : Value} (L : Live tag B w N g k) (hk : k < 150) (hr : Rd 2 w v l.length (claims l)) (he : Ext tag w v) :
  Calls Try.prog 55 #[.pointer (some ⟨N.ptr,0,none⟩),.int .i64 n,v] w fun e w' => ∃ cv,e = .returned (.tuple #[.int .i64 (doP g n l).2.1,cv,.int .i64 (doP g n l).2.2.2]) ∧ Did tag B w N (k + 1) (doP g n l) cv w' := by
 have hS := L.small (by omega)
 by_cases h1 : n < 0 ∨ (g.places : Int) ≤ n
 ·have hd : doP g n l = (g,0,[],271) := by rw [doP,if_pos h1]
  rw [hd]
  refine (npropose_place L.rep n v (by rw [L.abs.plen]; exact h1)).mono ?_
  rintro e w' ⟨rfl,hw⟩
  exact ⟨_,rfl,by rw [hw]; exact L.idle (Fr.refl L.ok) _ _⟩
 ·obtain ⟨p,rfl⟩ : ∃ p : Nat,n = p := ⟨n.toNat,by omega⟩
  have hpl : p < N.places.length := by rw [L.abs.plen]; omega
  cases hc : claimedB g.n l with
  | false =>
   have hd : doP g p l = (g,0,[],270) := by rw [doP,if_neg h1,if_pos hc]
   rw [hd]
   refine (npropose_bad L.rep L.ok hpl (by rw [L.abs.slen]; have := L.abs.n64; omega) hr (by rw [L.abs.slen]; exact hc)).mono ?_
   rintro e w' ⟨rfl,hw⟩
   exact ⟨_,rfl,L.idle hw _ _⟩
  | true =>
   obtain ⟨c,hc0⟩ := claimed_head hc
   have hl := claimed_of hc
   have hd : doP g p l = (g.proposeG p l c,(g.np : Int),[],0) := by rw [doP,if_neg h1,if_neg (by simp [hc]),hc0]
   rw [hd]
   have hp : N.places[p]? = some N.places[p] := List.getElem?_eq_getElem hpl
   have hA := L.abs.place p _ hp
   obtain ⟨_,hf1,hf2⟩ := L.abs.propose L.good 0 hp hl hc0
   have hnp := L.np
   have hn64 := L.abs.n64
   refine (npropose_ok l L.rep L.ok hp hr he (by rw [L.abs.slen]; exact hc) (by rw [hA.slen,L.abs.slen]) (by rw [L.abs.clen]; exact hf2) (by have := hA.plen; omega) (by rw [L.abs.slen]; omega) hA.out hA.came
    (by rw [L.abs.clen]; omega) (by rw [L.abs.hlen]; omega) (by have := L.fl_len (by omega); omega) (by have := hl.len; omega) (by rw [L.abs.dec]; have := dec_len L.good; omega) (fun j => by have := getD_hist L.abs L.good j; omega) (fun xp => by have := (L.abs.propose L.good xp hp hl hc0).2.1; omega)).mono ?_
   rintro e w' ⟨cv,rfl,tag',xp,hN,hcv,hF⟩
   refine ⟨cv,by rw [L.abs.clen],tag',_,⟨hN,(L.abs.propose L.good xp hp hl hc0).1,L.good.propose hl hc0,by show g.np + 1 ≤ _; omega,?_,hF.dom⟩,?_,?_,hF.mono (fun t h => ?_)⟩
   ·rw [wt_propose]
    have := L.wt
    have := hl.len.2
    show _ + 1 + l.length ≤ _
    omega
   ·exact (takeN_same _ _ _).1
   ·exact Row.rd hcv (by simp [cames])
   ·have := L.abs.p32; rw [L.abs.plen] at hpl; omega
theorem live_drop {n : Int} (L : Live tag B w N g k) (hk : k < 150) :
  Calls Try.prog 52 #[.pointer (some ⟨N.ptr,0,none⟩),.int .i64 n] w fun e w' => e = .returned (.int .i64 (doD g n).2.2.2) ∧ Did tag B w N (k + 1) (doD g n) (.slice none 0 0) w' := by
 have hS := L.small (by omega)
 by_cases h1 : n < 0 ∨ (g.np : Int) ≤ n
 ·have hd : doD g n = (g,0,[],3) := by rw [doD,if_pos h1]
  rw [hd]
  refine (ndrop_none n L.rep (by rw [L.abs.clen]; rcases h1 with h | h <;> simp <;> omega)).mono ?_
  rintro e w' ⟨rfl,hw⟩
  exact ⟨rfl,by rw [hw]; exact L.idle (Fr.refl L.ok) _ _⟩
 ·obtain ⟨p,rfl⟩ : ∃ p : Nat,n = p := ⟨n.toNat,by omega⟩
  obtain ⟨q,P,x,hh,hh2,hp,hf,hx,e1,e2,e3⟩ := L.abs.at_prop (n:=p) (by omega)
  have hnp := L.np
  have hA := L.abs.place q P hp
  have hlen := L.good.inv.len p
  have hpl := (List.getElem?_eq_some_iff.1 hp).1
  have hdl : (dropM P p x).out.length ≤ 100000 := by
   have hin : x.claims.length ≤ 64 := by rw [e1]; exact hlen
   unfold dropM
   split
   ·rw [hA.out]; simp
   ·simp only [PlaceM.send,List.length_append,List.length_singleton]
    have := (freeM_same (p : Int) (x.claims.take x.granted) (setProp P p { x with state := 4 })).2.2.2.2.2.2.1
    rw [this]
    have : (setProp P p { x with state := 4 }).out = [] := hA.out
    rw [this]
    have := List.length_take_le x.granted x.claims
    simp only [List.length_nil]
    have := List.length_take_le' x.granted x.claims
    omega
  refine (ndrop_ok (n:=p) L.rep L.ok (by rw [L.abs.clen]; omega) hh2 hp hf (L.abs.wf L.good hp) (by rw [hA.out]; simp) hdl (by have := L.fl_len (by omega); omega) (by rw [L.abs.dec]; have := dec_len L.good; omega) (fun j => by have := getD_hist L.abs L.good j; omega)).mono ?_
  rintro e w' ⟨hno,hyes⟩
  by_cases hst : (g.props p).st = 1
  ·have hd : doD g p = (g.dropG p,0,[],0) := by rw [doD,if_neg h1,if_neg (by simp [hst])]
   rw [hd]
   obtain ⟨rfl,tag',hN,hF⟩ := hyes (by rw [e2]; exact hst)
   refine ⟨rfl,tag',_,⟨hN,(L.abs.drop L.good (by omega) hst hh hp hx).1,L.good.drop hst,by show g.np ≤ _; omega,?_,hF.dom⟩,?_,⟨rfl,by simp [cames],.inl ⟨rfl,rfl⟩⟩,hF.mono (fun t h => ?_)⟩
   ·have := wt_drop W1_ok L.good hst; have := L.wt; simp only; omega
   ·exact (takeN_same _ _ _).1
   ·have := L.abs.p32; rw [L.abs.plen] at hpl; omega
  ·have hd : doD g p = (g,0,[],273) := by rw [doD,if_neg h1,if_pos hst]
   rw [hd]
   obtain ⟨rfl,hF⟩ := hno (by rw [e2]; exact hst)
   exact ⟨rfl,L.idle hF _ _⟩
theorem live_deliver {n : Int} (L : Live tag B w N g k) (hk : k ≤ 150) :
  Calls Try.prog 61 #[.pointer (some ⟨N.ptr,0,none⟩),.int .i64 n] w fun e w' => ∃ cv,e = .returned (.tuple #[cv,.int .i64 (doL g n).2.2.2]) ∧ Did tag B w N k (doL g n) cv w' := by
 have hS := L.small (by omega)
 by_cases h1 : n < 0 ∨ (g.fl.length : Int) ≤ n
 ·have hd : doL g n = (g,0,[],272) := by rw [doL,if_pos h1]
  rw [hd]
  refine (deliver_out n L.rep (by rw [L.abs.fl]; exact h1)).mono ?_
  rintro e w' ⟨rfl,hw⟩
  exact ⟨_,rfl,tag,N,by rw [hw]; exact L,rfl,⟨rfl,by simp [cames],.inl ⟨rfl,rfl⟩⟩,by rw [hw]; exact Fr.refl L.ok⟩
 ·obtain ⟨i,rfl⟩ : ∃ p : Nat,n = p := ⟨n.toNat,by omega⟩
  obtain ⟨m,hm⟩ : ∃ m,g.fl[i]? = some m := ⟨_,List.getElem?_eq_getElem (by omega)⟩
  have hd : doL g i = (g.deliverG i m,0,(g.takeG m).2.2,0) := by rw [doL,if_neg h1,Int.toNat_natCast,hm]
  rw [hd]
  have hmem := List.mem_of_getElem? hm
  have hi : N.flight[i]? = some m := by rw [L.abs.fl]; exact hm
  have R := L.good.route m hmem
  obtain ⟨k1,k2,c,_,hc⟩ := L.good.inv.mcl _ _ _ (has_mem hmem)
  obtain ⟨p0,pn,j0,jn⟩ := L.good.inv.rng _ _ _ hc
  have hdst : 0 ≤ m.dst ∧ m.dst < g.places := by
   by_cases e : m.kind = 2 ∨ m.kind = 3
   ·rw [(R.dst.1 e).2]; exact L.abs.homer _ p0 pn
   ·rw [(R.dst.2 (fun x => e (.inl x)) (fun x => e (.inr x))).2]; exact L.abs.siter _ j0 jn
  obtain ⟨p,hp⟩ := Int.eq_ofNat_of_zero_le hdst.1
  have hpl : p < N.places.length := by rw [L.abs.plen]; omega
  have hP : N.places[p]? = some N.places[p] := List.getElem?_eq_getElem hpl
  obtain ⟨ht,hq⟩ := L.abs.tame L.good hS hP
  obtain ⟨hv,hpr,hit⟩ := L.abs.valid L.good hS hP hmem hp
  obtain ⟨hab,hcame⟩ := L.abs.deliver L.good hi hp hP
  have hA := L.abs.place p _ hP
  have T := take_abs hA L.good hmem hp
  have hol := takeG_out_len L.good m
  have hnp := L.np
  have hcl : (takeM N.places[p] m).came.length ≤ 1 := by
   rw [hcame]
   have hC := takeG_cames (g := g) m
   generalize (g.takeG m).1 = g1 at hC
   generalize (g.takeG m).2.2 = cs at hC
   cases hC <;> simp
  have hcit : ∀ c ∈ (takeM N.places[p] m).came,c.kind = 3 → ∃ j : Nat,c.item = j ∧ j < N.history.length := by
   rw [hcame]
   have hC := takeG_cames (g := g) m
   generalize (g.takeG m).1 = g1 at hC
   generalize (g.takeG m).2.2 = cs at hC
   cases hC with
   | none => simp
   | done => simp
   | not => simp
   | moved =>
    intro c hc hk3
    rw [List.mem_singleton.1 hc]
    obtain ⟨j,hj⟩ := Int.eq_ofNat_of_zero_le j0
    exact ⟨j,hj,by rw [L.abs.ylen]; omega⟩
  refine (deliver_ok L.rep L.ok hi hp hP hv ht hq hpr hit (by have := L.fl_len (by omega); omega) (by rw [T.out]; omega) (by omega) hcit (by rw [L.abs.dec]; have := dec_len L.good; omega) (fun j => by have := getD_hist L.abs L.good j; omega)).mono ?_
  rintro e w' ⟨cv,rfl,tag',hN,hcv,hF⟩
  obtain ⟨s1,s2,s3,s4,s5,s6,s7⟩ := takeG_same (g := g) m
  refine ⟨cv,rfl,tag',_,⟨hN,hab,L.good.deliver hm,by show (g.takeG m).1.np ≤ _; rw [s4]; omega,?_,hF.dom⟩,?_,?_,hF.mono (fun t h => ?_)⟩
  ·have := wt_deliver W1_ok L.good hm; have := L.wt; simp only; omega
  ·exact (takeN_same _ _ _).1
  ·rw [hcame] at hcv; exact hcv.rd (cames_one _)
  ·have := L.abs.p32; rw [L.abs.plen] at hpl; omega
end
section
variable {tag : Nat → Tag} {w : World} {B : Nat} {N : NetM} {g : G} {k : Nat}
theorem Did.more {k' : Nat} {r : G × Int × List Came × Int} {cv : Value} {w' : World} (hk : k ≤ k') (h : Did tag B w N k r cv w') : Did tag B w N k' r cv w' := by
 obtain ⟨tag',N',h1,h2,h3,h4⟩ := h
 exact ⟨tag',N',h1.more hk,h2,h3,h4⟩
theorem claimed_nil (SA A : Option Addr) (n scap cap : Nat) (w : World) : Calls Try.prog 69 #[.slice SA n scap,.slice A 0 cap] w fun e w' => e = .returned (.bool false) ∧ w' = w := by
 go_enter Try.func69,Try.ntmps69
 go_wp2
 go_ret
 exact ⟨rfl,rfl⟩
theorem npropose_nil (h : NRep tag B w N) {q : Nat} (A : Option Addr) (cap : Nat) (hp : q < N.places.length) :
  Calls Try.prog 55 #[.pointer (some ⟨N.ptr,0,none⟩),.int .i64 (q : Int),.slice A 0 cap] w fun e w' => e = .returned (.tuple #[.int .i64 0,.slice none 0 0,.int .i64 270]) ∧ w' = w := by
 obtain ⟨pv,sv,fv,xv,hv',yv,dv,hce,h2,h3,h4,_⟩ := h.cells
 obtain ⟨PA,pcap,rfl,q1,q2⟩ := h2.form
 obtain ⟨SA,scap,rfl,q3,q4⟩ := h3.form
 have c0 : w.cell? ⟨N.ptr,0,none⟩ = some (.slice PA N.places.length pcap) := cell_of hce 0
 have c1 : w.cell? ⟨N.ptr,1,none⟩ = some (.slice SA N.sites.length scap) := cell_of hce 1
 have i1 : (0 : Int) ≤ (q : Int) := by omega
 have i2 : (q : Int) < (N.places.length : Int) := by omega
 have i3 : decide ((q : Int) < 0) = false := decide_eq_false (by omega)
 have i7 : decide ((N.places.length : Int) ≤ (q : Int)) = false := decide_eq_false (by omega)
 clear h hce h2 h3 h4
 go_enter Try.func55,Try.ntmps55
 go_wp2_with (
  go_at_call 69
  refine (claimed_nil SA A N.sites.length scap cap w).mono ?_
  rintro e w1 ⟨rfl,hw⟩
  replace hw := hw.symm
  subst hw)
 go_ret3
 exact ⟨rfl,rfl⟩
theorem live_propose' {n : Int} {l : List Clm} {v : Value} (L : Live tag B w N g k) (hk : k < 150) (hx : RdX tag w v l) :
  Calls Try.prog 55 #[.pointer (some ⟨N.ptr,0,none⟩),.int .i64 n,v] w fun e w' => ∃ cv,e = .returned (.tuple #[.int .i64 (doP g n l).2.1,cv,.int .i64 (doP g n l).2.2.2]) ∧ Did tag B w N (k + 1) (doP g n l) cv w' := by
 rcases hx with ⟨h1,h2⟩ | ⟨rfl,A,cap,rfl,hcap⟩
 ·exact live_propose L hk h1 h2
 ·by_cases h1 : n < 0 ∨ (g.places : Int) ≤ n
  ·have hd : doP g n [] = (g,0,[],271) := by rw [doP,if_pos h1]
   rw [hd]
   refine (npropose_place L.rep n _ (by rw [L.abs.plen]; exact h1)).mono ?_
   rintro e w' ⟨rfl,hw⟩
   exact ⟨_,rfl,by rw [hw]; exact L.idle (Fr.refl L.ok) _ _⟩
  ·obtain ⟨p,rfl⟩ : ∃ p : Nat,n = p := ⟨n.toNat,by omega⟩
   have hd : doP g p [] = (g,0,[],270) := by rw [doP,if_neg h1]; rfl
   rw [hd]
   refine (npropose_nil L.rep A cap (q := p) (by rw [L.abs.plen]; omega)).mono ?_
   rintro e w' ⟨rfl,hw⟩
   exact ⟨_,rfl,by rw [hw]; exact L.idle (Fr.refl L.ok) _ _⟩
end
theorem Try.info22 : (Try.prog.info? 22).map (fun i => (i.zero,i.size,i.bytes)) = some (some (.slice none 0 0),1,24) := by kernel_rfl
theorem Try.info27 : (Try.prog.info? 27).map (fun i => (i.zero,i.size,i.bytes)) = some (some (.pointer none),1,8) := by kernel_rfl
def MidN (B n : Nat) (tag : Nat → Tag) (w : World) (l : List Int) (s : Value × Value) (w' : World) : Prop :=
 ∃ (T : Nat → Tag) (A : Option Addr) (cap b4 : Nat) (ys : List Value),s.1 = .slice A n cap ∧ s.2 = .slice (some ⟨b4,0,none⟩) n n ∧ Row T (B,3,0) 3 1 w' (.slice A n cap) n (ints l) ∧ Row T (B,8,0) 22 1 w' (.slice (some ⟨b4,0,none⟩) n n) n ys ∧
  (∀ i < n,ys[i]? = some (.slice none 0 0)) ∧ Fr (fun _ => False) tag T w w'
def nils (n : Nat) : Array Value := madeCells #[.slice none 0 0] n
theorem nils_size (n : Nat) : (nils n).size = n * 1 := by simp [nils,madeCells]
theorem made22 (n i : Nat) (h : i < n) : (nils n).toList[i]? = some (.slice none 0 0) := by
 simp [nils,madeCells,h,Nat.mod_one]
theorem NRep.add_place {S : Tag → Prop} {tag tag' : Nat → Tag} {w w' : World} {B : Nat} {N : NetM} {P : PlaceM} (h : NRep tag B w N) (hP : PRep tag (B + 1 + N.places.length) w P) (hf : Fr S tag tag' w w') (hS : ∀ t,S t → t = (B,1,0) ∨ t = (B,2,0))
  (hc : ∀ pv sv fv cv hv yv dv,w.heap[N.ptr]? = some (.cells #[pv,sv,fv,cv,hv,yv,dv] 154 (0,0)) → ∃ pv',w'.heap[N.ptr]? = some (.cells #[pv',sv,fv,cv,hv,yv,dv] 154 (0,0)) ∧ Row tag' (B,2,0) 27 1 w' pv' (N.places.length + 1) (N.places.map placePtr ++ [placePtr P])) :
  NRep tag' B w' { N with places := N.places ++ [P] } := by
 obtain ⟨pv,sv,fv,cv,hv,yv,dv,h1,h2,h3,h4,⟨cvs,h5,h6⟩,h7,⟨yvs,h8,h9⟩,h10⟩ := h.cells
 obtain ⟨pv',k1,k2⟩ := hc pv sv fv cv hv yv dv h1
 have no : ∀ r j,r ≠ 1 → r ≠ 2 → ¬ S (B,r,j) := fun r j a b hs => by
  rcases hS _ hs with e | e <;> simp_all
 refine ⟨h.b0,(hf.tag_eq h1).trans h.tptr,⟨pv',sv,fv,cv,hv,yv,dv,k1,by simpa using k2,h3.fr hf (no _ _ (by decide) (by decide)),h4.fr hf (no _ _ (by decide) (by decide)),⟨cvs,h5.fr hf (no _ _ (by decide) (by decide)),fun i l hl => ?_⟩,h7.fr hf (no _ _ (by decide) (by decide)),⟨yvs,h8.fr hf (no _ _ (by decide) (by decide)),fun i l hl => ?_⟩,h10.fr hf (no _ _ (by decide) (by decide))⟩,fun i Q hQ => ?_⟩
 ·obtain ⟨v,hv,hr⟩ := h6 i l hl
  exact ⟨v,hv,hr.fr hf (no _ _ (by decide) (by decide))⟩
 ·obtain ⟨v,hv,hr⟩ := h9 i l hl
  exact ⟨v,hv,hr.fr hf (no _ _ (by decide) (by decide))⟩
 ·have hQ' : (N.places ++ [P])[i]? = some Q := hQ
  have hns : ∀ r j,¬ S (B + 1 + i,r,j) := fun r j hs => by
   rcases hS _ hs with e | e <;> simp at e <;> omega
  rw [List.getElem?_append] at hQ'
  split at hQ'
  ·exact (h.places i Q hQ').fr hf hns
  ·rename_i hi
   have hi' : i = N.places.length := by
    by_cases e : i - N.places.length = 0
    ·omega
    ·rw [List.getElem?_eq_none (by simp; omega)] at hQ'; cases hQ'
   subst hi'
   simp at hQ'
   subst hQ'
   exact hP.fr hf hns
def beginG (places : Nat) (l : List Int) : G := ⟨l.length,0,fun _ => ⟨none,[],0,[],[]⟩,fun _ => ⟨[],0,0⟩,[],[],places,fun j => l.getD j.toNat 0,fun _ => 0⟩
theorem beginG_good (places : Nat) (l : List Int) : NGood (beginG places l) := by
 refine ⟨?_,by simp [beginG],by simp [beginG]⟩
 constructor <;> simp [beginG,G.cl,G.at_,G.has,G.claimsI,G.held]
theorem sumI_zero : ∀ (n : Nat) (f : Int → Nat),(∀ i,f i = 0) → sumI n f = 0
 | 0,_,_ => rfl
 | n + 1,f,h => by rw [sumI,sumI_zero n f h,h]
theorem beginG_wt (W : Wt) (places : Nat) (l : List Int) : W.all (beginG places l) = 0 := by
 rw [Wt.all,sumI_zero _ _ (fun i => by simp [beginG,Wt.pr]),sumI_zero _ _ (fun i => by simp [beginG])]
 simp [beginG,Wt.fl]
theorem begin_abs {places : Nat} {l : List Int} {N : NetM} (hp : 1 ≤ places ∧ places ≤ 32) (hl : rightB l places = true) (hN : ∃ ptr Ps,N = ⟨ptr,Ps,l,[],[],[],List.replicate l.length [],[]⟩ ∧ Ps.length = places ∧ ∀ (i : Nat) (P : PlaceM),Ps[i]? = some P → Begun P i l l) : Abs N (beginG places l) := by
 obtain ⟨ptr,Ps,rfl,hpl,hP⟩ := hN
 simp only [rightB,Bool.and_eq_true,decide_eq_true_eq,Bool.not_eq_true',List.any_eq_false] at hl
 obtain ⟨hl1,hl2⟩ := hl
 have hsite : ∀ j : Nat,j < l.length → l[j]? = some ((beginG places l).site j) := by
  intro j hj
  simp [beginG,List.getD_eq_getElem?_getD,hj]
 refine ⟨hpl,hp,?_,rfl,hsite,hl1,?_,rfl,fun p hp => by simp [beginG] at hp,rfl,fun p hp => by simp [beginG] at hp,fun p h0 h1 => by simp [beginG] at h1; omega,by simp [beginG],?_,rfl,rfl⟩
 ·intro i P hPi
  have hB := hP i P hPi
  refine ⟨hB.pno,by rw [hB.psites]; rfl,by rw [hB.psites]; exact hsite,hB.len,?_,?_,?_,?_,?_,by rw [hB.props]; simp,hB.out,hB.came⟩
  ·intro j hj hs
   obtain ⟨it,hit⟩ := hB.has j (by rw [hsite j hj,hs])
   obtain ⟨_,h1,h2,h3,h4,h5⟩ := hB.item j it hit
   exact ⟨it,hit,by simp [beginG,h1],by simp [beginG,h3],by simp [beginG,h4],by simp [beginG,h5],by simp [h3]⟩
  ·intro j it hj
   have h1 := (hB.item j it hj).1
   have hjl := (List.getElem?_eq_some_iff.1 h1).1
   rw [hsite j hjl] at h1
   exact Option.some.inj h1
  ·intro n x hx; rw [hB.props] at hx; cases hx
  ·intro n x y hx; rw [hB.props] at hx; cases hx
  ·intro n h0 h1; simp [beginG] at h1; omega
 ·intro j h0 h1
  have hj : j.toNat < l.length := by simp [beginG] at h1; omega
  have h2 := hl2 _ (List.getElem_mem hj)
  simp only [badI,Bool.or_eq_true,decide_eq_true_eq,not_or] at h2
  have h3 : (beginG places l).site j = l[j.toNat] := by simp [beginG,List.getD_eq_getElem?_getD,hj]
  rw [h3]
  show 0 ≤ l[j.toNat] ∧ l[j.toNat] < (places : Int)
  omega
 ·intro j hj
  have hj' : j < l.length := hj
  simp [beginG,hj']
theorem rightB_mono {l : List Int} {a b : Int} (h : rightB l a = true) (hab : a ≤ b) : rightB l b = true := by
 simp only [rightB,Bool.and_eq_true,decide_eq_true_eq,Bool.not_eq_true',List.any_eq_false] at h ⊢
 refine ⟨h.1,fun x hx => ?_⟩
 have := h.2 x hx
 simp only [badI,Bool.or_eq_true,decide_eq_true_eq,not_or] at this ⊢
 omega
theorem new_ok {tag : Nat → Tag} {w : World} {v : Value} (B places : Nat) (l : List Int) (hr : Rd 1 w v l.length (ints l)) (he : Ext tag w v) (hok : TagOk tag w) (hB : B ≠ 0) (hp1 : 1 ≤ places) (hp2 : places ≤ 32) (hl : rightB l places = true) :
  Calls Try.prog 29 #[.int .i64 (places : Int),v] w fun e w' => ∃ N : NetM,e = .returned (.tuple #[.pointer (some ⟨N.ptr,0,none⟩),.int .i64 0]) ∧ ∃ tag',Live tag' B w' N (beginG places l) 0 ∧ Fr (fun t => B ≤ t.1 ∧ t.1 ≤ B + 32) tag tag' w w' := by
 obtain ⟨i0,hi,hz0,hz1,hz2⟩ := info_parts Try.info27
 obtain ⟨j0,hj,hy0,hy1,hy2⟩ := info_parts Try.info22
 obtain ⟨A,cap,rfl,hn1,hn2⟩ := hr.slice
 unfold maxLen at hn2
 have hll : l.length ≤ 64 := by
  simp [rightB] at hl
  exact hl.1
 have hmk : ∀ W,(Instr.makeSlice 152 (.int .i64 (l.length : Int)) (.int .i64 (l.length : Int))).run Try.prog W = .ok (.slice (some ⟨W.heap.size,0,none⟩) l.length l.length) (W.alloc (.cells (nils l.length) 22)) := by
  intro W
  have := run_makeSlice (P := Try.prog) (w := W) 152 22 j0 (.slice none 0 0) Try.underlying152 hj hy0 .i64 .i64 (l.length : Int) (l.length : Int) (by omega) (Int.le_refl _) (by rw [hy1]; simp; omega) (by rw [hy2]; omega) (by omega)
  rw [hy1,Nat.mul_one] at this
  exact this
 have HR := Lib.hid hr
 have HL := Lib.hid hl
 have HE := Lib.hid he
 have HMK := Lib.hid hmk
 have i1 : (1 : Int) ≤ (places : Int) := by omega
 have i2 : (places : Int) ≤ 32 := by omega
 have i3 : decide ((places : Int) < 1) = false := decide_eq_false (by omega)
 have i4 : decide ((32 : Int) < (places : Int)) = false := decide_eq_false (by omega)
 clear hr hl he hmk
 go_enter Try.func29,Try.ntmps29
 go_wp2_with (
  go_at_call 66
  refine (right_ok l (places : Int) w HR.out hok).mono ?_
  rw [HL.out]
  rintro e w1 ⟨rfl,hF1⟩
  have HF1 := Lib.hid hF1
  clear hF1)
 have hok1 := HF1.out.dom
 have hmk := HMK.out
 have HG0 : Hid (Fr (fun _ => False) tag tag w1 w1.drew) := Lib.hid (Fr.drew hok1)
 refine start_ (n:=8) (S:=fun w' => True) (ds := []) #[f_,f_,f_,f_,f_,f_,f_,f_] (by kernel_rfl) rfl rfl trivial (fun hHeld => ?_)
 generalize w1.drew = W0 at HG0 ⊢
 refine pure_ (i:=0) (N:=some 22) (v:=?_) (a':=?_) #[t_,f_,f_,f_,f_,f_,f_,f_] rfl rfl (by kernel_rfl) (fun _ _ _ h => h) (Or.inl ⟨by rfl,?_⟩) ?_ ?_
 rotate_left;intro w';go_simp;with_reducible rfl;rotate_left;simp only [Act.put,sA_,sB_,sC_,i64_w,i32_w];rfl
 refine pure_ (i:=2) (N:=some 24) (v:=?_) (a':=?_) #[t_,f_,t_,f_,f_,f_,f_,f_] rfl rfl (by kernel_rfl) (fun _ _ _ h => h) (Or.inl ⟨by rfl,?_⟩) ?_ ?_
 rotate_left;intro w';go_simp;with_reducible rfl;rotate_left;simp only [Act.put,sA_,sB_,sC_,i64_w,i32_w];rfl
 refine pure_ (i:=3) (N:=some 25) (v:=?_) (a':=?_) #[t_,f_,t_,t_,f_,f_,f_,f_] rfl rfl (by kernel_rfl) (fun _ _ _ h => h) (Or.inl ⟨by rfl,?_⟩) ?_ ?_
 rotate_left;intro w';go_simp;with_reducible rfl;rotate_left;simp only [Act.put,sA_,sB_,sC_,i64_w,i32_w];rfl
 refine join_ (σ := Value × Value) 3 #[t_,t_,t_,t_,t_,f_,f_,f_] (fun s => [(23,s.1),(26,s.2)]) (MidN B l.length tag w1 l) ?_ ?_
 rotate_left
 ·intro hCont
  refine two_ (i:=1) (j:=4) (Ni := some 23) (Nj := some 26) #[t_,t_,t_,t_,f_,f_,f_,f_] #[t_,f_,t_,t_,t_,f_,f_,f_] rfl rfl rfl rfl (by kernel_rfl) (by decide) (by decide) (fun K hK => ?_) (fun K hK => ?_)
  ·skip
   refine goes_ Try.func67 (by kernel_rfl) rfl #[.slice A l.length cap] (by rfl) rfl rfl (by simp only [List.map_toArray,List.map_cons,List.map_nil]; rfl) ?_
   with_reducible refine (clone67_ok (B,3,0) l.length (ints l) _ (HR.out.frF (HF1.out.trans HG0.out)) HG0.out.dom (by omega)).mono ?_
   rintro e W1 ⟨v1,rfl,T1,hrow,hs⟩
   refine ⟨_,rfl,?_⟩
   obtain ⟨A1,cap1,rfl,_,_⟩ := hrow.form
   have HG1 := Lib.hid (HG0.out.trans hs)
   have HV1 := Lib.hid hrow
   clear hs hrow
   refine hK.out _ _ trivial (fun hHeld => ?_)
   clear hK K
   refine norm_ (a':=?_) ?_ ?_
   rotate_left
   ·show Act.put _ (some 23) _ = _
    simp only [Act.put,sA_,sB_,sC_,i64_w,i32_w]
    rfl
   refine one_ (i:=4) (N:=some 26) #[t_,t_,t_,t_,t_,f_,f_,f_] rfl rfl (by kernel_rfl) (by decide) (fun K hK => ?_)
   refine value_ (w1:=?_) (v:=?_) (by rfl) rfl ?_ ?_
   rotate_left 2
   ·go_simp
    constructor
    ·rfl
    ·rfl
   obtain ⟨W2,hW⟩ : ∃ x,x = World.alloc W1 (.cells (nils l.length) 22) := ⟨_,rfl⟩
   rw [← hW]
   obtain ⟨b4,hb4⟩ : ∃ b,b = (W1).heap.size := ⟨_,rfl⟩
   rw [← hb4]
   obtain ⟨T2,hT⟩ : ∃ x,x = give T1 b4 (B,8,0) := ⟨_,rfl⟩
   have hs : Fr (fun _ => False) T1 T2 W1 W2 := by rw [hW,hT,hb4]; exact Fr.give_alloc HG1.out.dom _ _
   have HG2 := Lib.hid (HG1.out.trans hs)
   have HY2 : Hid (Row T2 (B,8,0) 22 1 W2 (.slice (some ⟨b4,0,none⟩) l.length l.length) l.length (nils l.length).toList) := Lib.hid (.inl ⟨by rw [hW,hb4]; exact World.ownsRow_lit (base := 0) _ _ l.length (Nat.zero_le _) (by unfold maxLen; omega) (nils_size _),fun b hb => by simp [Value.ownBlock] at hb; rw [← hb,hT]; exact give_at _ _ _⟩)
   have HV2 := Lib.hid (HV1.out.fr hs (fun x => x))
   clear hs hT hW hb4
   refine hK.out _ _ trivial (fun hHeld => ?_)
   clear hK K
   refine norm_ (a':=?_) ?_ ?_
   rotate_left
   ·show Act.put _ (some 26) _ = _
    simp only [Act.put,sA_,sB_,sC_,i64_w,i32_w]
    rfl
   exact norm_ (by simp only [putAll,Act.put,sA_,sB_,sC_]) (hCont (.slice A1 l.length cap1,.slice (some ⟨b4,0,none⟩) l.length l.length) _ ⟨T2,A1,cap1,b4,_,rfl,rfl,HV2.out,HY2.out,fun i hi => made22 _ _ hi,HG2.out⟩)
  ·skip
   refine value_ (w1:=?_) (v:=?_) (by rfl) rfl ?_ ?_
   rotate_left 2
   ·go_simp
    constructor
    ·rfl
    ·rfl
   obtain ⟨W1,hW⟩ : ∃ x,x = World.alloc W0 (.cells (nils l.length) 22) := ⟨_,rfl⟩
   rw [← hW]
   obtain ⟨b4,hb4⟩ : ∃ b,b = (W0).heap.size := ⟨_,rfl⟩
   rw [← hb4]
   obtain ⟨T1,hT⟩ : ∃ x,x = give tag b4 (B,8,0) := ⟨_,rfl⟩
   have hs : Fr (fun _ => False) tag T1 W0 W1 := by rw [hW,hT,hb4]; exact Fr.give_alloc HG0.out.dom _ _
   have HG1 := Lib.hid (HG0.out.trans hs)
   have HY1 : Hid (Row T1 (B,8,0) 22 1 W1 (.slice (some ⟨b4,0,none⟩) l.length l.length) l.length (nils l.length).toList) := Lib.hid (.inl ⟨by rw [hW,hb4]; exact World.ownsRow_lit (base := 0) _ _ l.length (Nat.zero_le _) (by unfold maxLen; omega) (nils_size _),fun b hb => by simp [Value.ownBlock] at hb; rw [← hb,hT]; exact give_at _ _ _⟩)
   clear hs hT hW hb4
   refine hK.out _ _ trivial (fun hHeld => ?_)
   clear hK K
   refine norm_ (a':=?_) ?_ ?_
   rotate_left
   ·show Act.put _ (some 26) _ = _
    simp only [Act.put,sA_,sB_,sC_,i64_w,i32_w]
    rfl
   refine one_ (i:=1) (N:=some 23) #[t_,t_,t_,t_,t_,f_,f_,f_] rfl rfl (by kernel_rfl) (by decide) (fun K hK => ?_)
   refine goes_ Try.func67 (by kernel_rfl) rfl #[.slice A l.length cap] (by rfl) rfl rfl (by simp only [List.map_toArray,List.map_cons,List.map_nil]; rfl) ?_
   with_reducible refine (clone67_ok (B,3,0) l.length (ints l) _ (HR.out.frF (HF1.out.trans HG1.out)) HG1.out.dom (by omega)).mono ?_
   rintro e W2 ⟨v1,rfl,T2,hrow,hs⟩
   refine ⟨_,rfl,?_⟩
   obtain ⟨A1,cap1,rfl,_,_⟩ := hrow.form
   have HG2 := Lib.hid (HG1.out.trans hs)
   have HV2 := Lib.hid hrow
   have HY2 := Lib.hid (HY1.out.fr hs (fun x => x))
   clear hs hrow
   refine hK.out _ _ trivial (fun hHeld => ?_)
   clear hK K
   refine norm_ (a':=?_) ?_ ?_
   rotate_left
   ·show Act.put _ (some 23) _ = _
    simp only [Act.put,sA_,sB_,sC_,i64_w,i32_w]
    rfl
   exact norm_ (by simp only [putAll,Act.put,sA_,sB_,sC_]) (hCont (.slice A1 l.length cap1,.slice (some ⟨b4,0,none⟩) l.length l.length) _ ⟨T2,A1,cap1,b4,_,rfl,rfl,HV2.out,HY2.out,fun i hi => made22 _ _ hi,HG2.out⟩)
 rintro ⟨v1,v4⟩ wm ⟨Tm,Am,capm,b4,ys,h1,h4,hv,hy,hys,hg⟩
 simp only at h1 h4
 subst h1 h4
 have HV := Lib.hid hv
 have HY := Lib.hid hy
 have HYS := Lib.hid hys
 have HG := Lib.hid hg
 clear hv hy hys hg
 have hHeld := trivial
 refine norm_ (a':=?_) ?_ ?_
 rotate_left
 ·simp only [putAll,Act.put,sA_,sB_,sC_]
  rfl
 refine pure_ (i:=5) (N:=some 27) (v:=?_) (a':=?_) #[t_,t_,t_,t_,t_,t_,f_,f_] rfl rfl (by kernel_rfl) (fun _ _ _ h => h) (Or.inl ⟨by rfl,?_⟩) ?_ ?_
 rotate_left;intro w';go_simp;with_reducible rfl;rotate_left;simp only [Act.put,sA_,sB_,sC_,i64_w,i32_w];rfl
 refine one_ (i:=6) (N:=some 28) #[t_,t_,t_,t_,t_,t_,t_,f_] rfl rfl (by kernel_rfl) (by decide) (fun K hK => ?_)
 refine value_ (w1:=?_) (v:=?_) (by rfl) rfl ?_ ?_
 rotate_left 2
 ·go_simp
  constructor
  ·rfl
  ·rfl
 refine hK.out _ _ trivial (fun hHeld => ?_)
 clear hK K
 refine norm_ (a':=?_) ?_ ?_
 rotate_left
 ·show Act.put _ (some 28) _ = _
  simp only [Act.put,sA_,sB_,sC_,i64_w,i32_w]
  rfl
 refine pure_ (i:=7) (N:=some 6) (v:=?_) (a':=?_) #[t_,t_,t_,t_,t_,t_,t_,t_] rfl rfl (by kernel_rfl) (fun _ _ _ h => h) (Or.inl ⟨by rfl,?_⟩) ?_ ?_
 rotate_left;intro w';go_simp;with_reducible rfl;rotate_left;simp only [Act.put,sA_,sB_,sC_,i64_w,i32_w];rfl
 refine done_ (by kernel_rfl) ?_
 clear hHeld hmk
 obtain ⟨w3,hw3⟩ : ∃ w3,w3 = wm.alloc (.cells #[.slice none 0 0,.slice Am l.length capm,.slice none 0 0,.slice none 0 0,.slice none 0 0,.slice (some ⟨b4,0,none⟩) l.length l.length,.slice none 0 0] 154) := ⟨_,rfl⟩
 obtain ⟨p0,hp0⟩ : ∃ p0,p0 = wm.heap.size := ⟨_,rfl⟩
 rw [← hw3,← hp0]
 have hFb : Fr (fun _ => False) Tm (give Tm p0 (B,1,0)) wm w3 := by rw [hw3,hp0]; exact Fr.give_alloc HG.out.dom _ _
 have hF3 : Fr (fun _ => False) tag _ w w3 := (HF1.out.trans HG.out).trans hFb
 have hN3 : NRep (give Tm p0 (B,1,0)) B w3 ⟨p0,[],l,[],[],[],List.replicate l.length [],[]⟩ := by
  refine ⟨hB,give_at _ _ _,⟨.slice none 0 0,.slice Am l.length capm,.slice none 0 0,.slice none 0 0,.slice none 0 0,.slice (some ⟨b4,0,none⟩) l.length l.length,.slice none 0 0,?_,Row.nil _ _ _ _ _,HV.out.fr hFb (fun x => x),Row.nil _ _ _ _ _,⟨[],Row.nil _ _ _ _ _,fun i l hl => by simp at hl⟩,Row.nil _ _ _ _ _,⟨ys,?_,fun i l' hl => ?_⟩,Row.nil _ _ _ _ _⟩,fun i P hP => by simp at hP⟩
  ·rw [hw3,hp0]; exact Go.Ng.heap_alloc_at _ _
  ·have := HY.out.fr hFb (fun x => x)
   simpa using this
  ·have hl2 : (List.replicate l.length ([] : List Int))[i]? = some l' := hl
   rw [List.getElem?_replicate] at hl2
   split at hl2
   ·injection hl2 with hl2
    subst hl2
    exact ⟨_,HYS.out i (by assumption),Row.nil _ _ _ _ _⟩
   ·cases hl2
 have HE3 := Lib.hid (HE.out.fr hF3)
 have HR3 := Lib.hid (HR.out.frF hF3)
 have HN3 := Lib.hid hN3
 have HF3 := Lib.hid hF3
 obtain ⟨tag3,ht3⟩ : ∃ t,t = give Tm p0 (B,1,0) := ⟨_,rfl⟩
 rw [← ht3] at HE3 HN3 HF3
 have HL32 := Lib.hid (rightB_mono HL.out i2)
 clear hw3 hp0 hFb hF3 hN3 ht3 HV HY HYS HG
 go_wp2_with fail
 go_loopw [30] (fun i wr => ∃ n : Nat,n ≤ places ∧ i = .int .i64 n ∧ ∃ (tagr : Nat → Tag) (Ps : List PlaceM),Hid (Ps.length = n) ∧ Hid (∀ (i : Nat) (P : PlaceM),Ps[i]? = some P → Begun P i l l) ∧ Hid (NRep tagr B wr ⟨p0,Ps,l,[],[],[],List.replicate l.length [],[]⟩) ∧ Hid (Fr (fun t => B ≤ t.1 ∧ t.1 ≤ B + 32) tag3 tagr w3 wr)) (fun i _ => places - (intOf i).toNat)
 case atStart => exact ⟨0,Nat.zero_le _,rfl,tag3,[],Lib.hid rfl,Lib.hid (fun i P h => by simp at h),HN3,Lib.hid (Fr.refl HF3.out.dom)⟩
 case round =>
  obtain ⟨n,hn,rfl,tagr,Ps,HPL,HPB,HNR,HFr⟩ := hrel
  by_cases hlt : n < places
  ·have HRr := Lib.hid (HR3.out.ext HE3.out HFr.out (fun t h => by omega))
   have HEr := Lib.hid (HE3.out.fr HFr.out)
   have hokr := HFr.out.dom
   have i5 : (n : Int) < (places : Int) := by omega
   go_wp2_with (first
   | (
    go_at_call 18
    refine (newPlace_ok (B + 1 + n) (n : Int) l wr HRr.out HEr.out hokr (by omega) (by omega) (by omega) HL32.out).mono ?_
    rintro e w5 ⟨P,rfl,hB5,tag5,hP5,hF5⟩
    have hN5 := HNR.out.fr hF5 (fun i r j hi => by have := HPL.out; simp only at hi ⊢; omega)
    obtain ⟨pv,sv,fv,xv,hv',yv,dv,hce,h2,_⟩ := hN5.cells
    obtain ⟨PA,pcap,rfl,q1,q2⟩ := h2.form
    unfold maxLen at q2
    have c0 : w5.cell? ⟨p0,0,none⟩ = some (.slice PA Ps.length pcap) := cell_of hce 0
    have cf := free_of hce 0
    have hok5 := hF5.dom
    have HB5 := Lib.hid hB5
    have HP5 := Lib.hid hP5
    have HF5 := Lib.hid hF5
    have HN5 := Lib.hid hN5
    have HCE := Lib.hid hce
    have H2 := Lib.hid h2
    have hps : Ps.length ≤ 32 := by have := HPL.out; omega
    clear hB5 hP5 hF5 hN5 hce h2)
   | (
    at_builtin
    refine append_list rfl (.tmp 46) (.tmp 48) 81 rfl (by rfl) (by rfl) (H2.out.alloc _) (hok5.alloc _) Try.underlying81 hi hz0 hz1 hz2 rfl (by decide) [.pointer (some ⟨P.ptr,0,none⟩)] rfl (news_at (Go.Ng.heap_alloc_at _ _)) (by simp [Value.oneCell']) (by decide) (by unfold maxLen; omega) (by omega) ?_
    intro g6 cap6 w6 tag6 hrow hfr
    have hF6 : Fr (fun t => t = (B,1,0) ∨ t = (B,2,0)) tag5 tag6 w5 w6 := (Fr.alloc hok5 (.cells #[.pointer (some ⟨P.ptr,0,none⟩)] 27)).trans (hfr.mono (fun _ h => .inr h))
    have hc6 := hfr.heap (heap_alloc_lt HCE.out (.cells #[.pointer (some ⟨P.ptr,0,none⟩)] 27)) (by rw [HN5.out.tptr]; simp)
    have d0 : w6.cell? ⟨p0,0,none⟩ = some (.slice PA Ps.length pcap) := cell_of hc6 0
    have df := free_of hc6 0
    have HC6 := Lib.hid hc6
    have HROW := Lib.hid hrow
    have HF6 := Lib.hid hF6
    clear hrow hfr hF6 hc6))
   go_roundw
   case rel =>
    have ht6 : tag6 p0 = (B,1,0) := (HF6.out.same _ (lt_of_heap HCE.out)).trans HN5.out.tptr
    have hFs : Fr (fun t => t = (B,1,0)) tag6 tag6 w6 (w6.setCell ⟨p0,0,none⟩ (.slice (some ⟨g6,0,none⟩) (Ps.length + 1) cap6)) := Fr.setCell HF6.out.dom (a := ⟨p0,0,none⟩) ht6 _
    have hFe := HF6.out.trans (hFs.mono (S' := fun t => t = (B,1,0) ∨ t = (B,2,0)) (fun _ h => .inl h))
    have hPl := HPL.out
    have hP5' : PRep tag5 (B + 1 + Ps.length) w5 P := by rw [hPl]; exact HP5.out
    refine ⟨n + 1,by omega,by go_num,tag6,Ps ++ [P],Lib.hid (by simp [hPl]),Lib.hid (fun i Q hQ => ?_),Lib.hid (HN5.out.add_place hP5' hFe (fun _ h => h) ?_),Lib.hid ((HFr.out.trans (HF5.out.mono (fun t h => by omega))).trans (hFe.mono (fun t h => by rcases h with h | h <;> rw [h] <;> simp)))⟩
    ·rw [List.getElem?_append] at hQ
     split at hQ
     ·exact HPB.out i Q hQ
     ·have hi' : i = n := by
       by_cases e : i - Ps.length = 0
       ·omega
       ·rw [List.getElem?_eq_none (by simp; omega)] at hQ; cases hQ
      subst hi'
      rw [hPl] at hQ
      simp at hQ
      subst hQ
      exact HB5.out
    ·intro pv' sv' fv' cv' hv'' yv' dv' hx
     obtain ⟨rfl,rfl,rfl,rfl,rfl,rfl,rfl⟩ : pv' = _ ∧ sv' = sv ∧ fv' = fv ∧ cv' = xv ∧ hv'' = hv' ∧ yv' = yv ∧ dv' = dv := by
      have := hx.symm.trans HCE.out
      simpa using this
     refine ⟨.slice (some ⟨g6,0,none⟩) (Ps.length + 1) cap6,?_,?_⟩
     ·rw [Go.Ng.heap_setCell_same HC6.out]; rfl
     ·exact HROW.out.fr hFs (by simp)
   case measure => simp [intOf]; omega
  ·have hnp : n = places := by omega
   subst hnp
   go_wp2_with fail
   go_ret2
   refine ⟨_,rfl,tagr,⟨HNR.out,begin_abs ⟨hp1,hp2⟩ HL.out ⟨p0,Ps,rfl,HPL.out,HPB.out⟩,beginG_good _ _,by simp [beginG],by rw [beginG_wt]; omega,HFr.out.dom⟩,(HF3.out.mono (fun _ h => h.elim)).trans HFr.out⟩
end Go.Proofs.Ytclkokkppgchfaa
