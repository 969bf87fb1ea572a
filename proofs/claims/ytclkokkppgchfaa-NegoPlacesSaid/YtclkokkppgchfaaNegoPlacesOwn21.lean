/- A part of the proof: texts of this session, joined. -/
import Derived.Test.YtclkokkppgchfaaNegoPlacesOwn20
import Derived.Test.YtclkokkppgchfaaPart10
import Derived.Deep.DeepCutAuto
import Derived.Test.YtclkokkppgchfaaShort
set_option linter.unusedSimpArgs false
set_option linter.unusedVariables false
set_option maxHeartbeats 12800000
set_option maxRecDepth 100000
namespace Go.Proofs.Ytclkokkppgchfaa
open Go.RowKit Go.Ng Go.Proofs.YtclkokkppgchfaaW.PrintLast
def errO : Option PlaceM → Int
 | none => 271
 | some _ => 0
def NewO (place : Int) (items : List Int) : Option PlaceM → Prop
 | none => place < 0 ∨ 32 ≤ place ∨ rightB items 32 = false
 | some P => 0 ≤ place ∧ place < 32 ∧ rightB items 32 = true ∧ Begun P place items items
theorem NewO.st {place : Int} {items : List Int} {o : Option PlaceM} (h : NewO place items o) : StI 0 o := by
 cases o with
 | none => trivial
 | some P => exact begun_inv h.2.2.2 h.2.2.1
theorem any_get {α : Type} {x : Option α} {f : α → Bool} (h : x.any f = true) : ∃ y,x = some y ∧ f y = true := by
 cases x with
 | none => simp at h
 | some y => exact ⟨y,rfl,by simpa using h⟩
def MidQ (q : Nat) (lo : List Post) (o' : Option PlaceM) (tag : TG) (w : World) (s : (Option Addr × Nat × Option Addr × Nat) × Nat) (w' : World) : Prop :=
 w'.heap[s.2]? = some (.cells #[.slice none 0 0,.slice none 0 0] 41 (0,0)) ∧ w.heap.size ≤ s.2 ∧ ∃ T : TG,(T s.2).1 = 0 ∧ PostsV 611 T w' (.slice s.1.1 lo.length s.1.2.1) lo ∧ CamesV 611 T w' (.slice s.1.2.2.1 0 s.1.2.2.2) [] ∧ RO q T w' o' ∧ Fr (fun t => t.1 = 610 ∨ t.1 = 611) tag T w w'
theorem negoPlaces_ok {tag : TG} {w : World} {vi vo vp : Value} {place : Int} {items : List Int} {l : List OpM} {ps : List Post} (hi : Rd 1 w vi items.length (ints items)) (hie : Ext tag w vi) (ho : OpsRd tag w vo l) (hp : Rd 6 w vp ps.length (posts ps)) (hpe : Ext tag w vp) (hok : TagOk tag w) :
  Calls Try.prog 3 #[.int .i64 place,vi,vo,vp] w fun e w' => e = .returned (.bool true) ∧ ∃ tag' : TG,Fr (fun t => 1 ≤ t.1) tag tag' w w' := by
 have HS := fun {tag : Nat → Tag} {w : World} => @sane_ok tag w 1
 obtain ⟨IA,icap,rfl,q1,q2⟩ := hi.slice
 obtain ⟨LA,lcap,rfl,q3,q4⟩ := ho.slice
 obtain ⟨CA,ccap,rfl,q5,q6⟩ := hp.slice
 unfold maxLen at q2 q4 q6
 have HI := Lib.hid hi
 have HIE := Lib.hid hie
 have HO := Lib.hid ho
 have HP := Lib.hid hp
 have HPE := Lib.hid hpe
 clear hi hie ho hp hpe
 obtain ⟨bad,hbad⟩ : ∃ b : Bool,b = (!fewB items.length l || decide (80 < (ps.length : Int))) := ⟨_,rfl⟩
 go_enter Try.func3,Try.ntmps3
 go_upto_region 3 with (
   go_at_call 16
   refine (HS hok (by omega)).mono ?_
   rintro e w1 ⟨rfl,T1,hF1,hok1⟩
   have HF1 := Lib.hid (hF1.mono (S' := fun t => 1 ≤ t.1) (fun t h => by omega))
   have HI1 := Lib.hid (HI.out.ext HIE.out hF1 (fun t h => by omega))
   have HO1 := Lib.hid (HO.out.fr hF1 (fun t h => by omega))
   clear hF1)
 have HFW := Lib.hid (few_ok HI1.out HO1.out HF1.out.dom)
 go_cut [38] (fun s wx => s = .bool bad ∧ Hid (Fr (fun _ => False) T1 T1 w1 wx))
 case first =>
  go_wp2_with (
   go_at_call 17
   refine HFW.out.mono ?_
   rintro e w3 ⟨rfl,hF3⟩
   have HF3 := Lib.hid hF3
   clear hF3)
  all_goals
   go_meet
   case rel => exact ⟨by rw [hbad]; (try simp [*]),HF3⟩
 case rest =>
 obtain ⟨rfl,HFx⟩ := hcut
 cases bad
 case true =>
  clear hbad
  go_wp2_with fail
  go_ret
  exact ⟨rfl,T1,HF1.out.trans (HFx.out.mono (fun _ h => h.elim))⟩
 case false =>
 obtain ⟨hb1,hb3⟩ : ps.length ≤ 80 ∧ fewB items.length l = true := by
  have := hbad.symm
  simp only [Bool.or_eq_false_iff,decide_eq_false_iff_not,Bool.not_eq_false',Int.not_lt] at this
  exact ⟨by omega,this.1⟩
 obtain ⟨hl80,hi65⟩ : l.length ≤ 80 ∧ items.length ≤ 65 := by
  simp only [fewB,Bool.and_eq_true,decide_eq_true_eq] at hb3
  exact ⟨hb3.1.1,hb3.1.2⟩
 clear hbad hb3
 have HFc := Lib.hid (HF1.out.trans (HFx.out.mono (S' := fun t => 1 ≤ t.1) (fun _ h => h.elim)))
 have HIc := Lib.hid (HI.out.ext HIE.out HFc.out (fun t h => by omega))
 have HIEc := Lib.hid (HIE.out.fr HFc.out)
 clear HFx HFW HI1 HO1
 go_upto_region 5 with fail
 go_cut [9,10] (fun a b wx => ∃ (pp : Nat) (o : Option PlaceM) (T : TG),a = pvO pp o ∧ b = .int .i64 (errO o) ∧ Hid (NewO place items o) ∧ Hid (NO pp T wx o) ∧ Hid (Fr (fun t => 1 ≤ t.1) tag T w wx))
 case first =>
  as_aux_lemma =>
   by_cases hv : place < 0 ∨ 32 ≤ place ∨ rightB items 32 = false
   ·have HV := Lib.hid hv
    clear hv
    go_wp2_with (
     go_at_call 18
     refine (newPlace_bad place items HIc.out HFc.out.dom HV.out).mono ?_
     rintro e w3 ⟨rfl,hF3⟩
     have HF3 := Lib.hid (HFc.out.trans (hF3.mono (fun _ h => h.elim)))
     clear hF3)
    go_meet
    case rel => exact ⟨0,none,T1,rfl,rfl,HV,Lib.hid trivial,HF3⟩
   ·obtain ⟨hp1,hp2,hp3⟩ : 0 ≤ place ∧ place < 32 ∧ rightB items 32 = true := by
     simp only [not_or,Bool.not_eq_false,Int.not_lt,Int.not_le] at hv
     exact hv
    have HV3 := Lib.hid hp3
    clear hv hp3
    go_wp2_with (
     go_at_call 18
     refine (newPlace_ok 600 place items _ HIc.out HIEc.out HFc.out.dom (by decide) hp1 hp2 HV3.out).mono ?_
     rintro e w3 ⟨P,rfl,hB3,T3,hP3,hF3⟩
     have HB3 := Lib.hid hB3
     have HP3 := Lib.hid hP3
     have HF3 := Lib.hid (HFc.out.trans (hF3.mono (fun t h => by omega)))
     clear hF3 hB3 hP3)
    go_meet
    case rel => exact ⟨P.ptr,some P,T3,rfl,rfl,Lib.hid ⟨hp1,hp2,HV3.out,HB3.out⟩,Lib.hid ⟨HP3.out,rfl⟩,HF3⟩
 case rest =>
 obtain ⟨pp,o,T2,rfl,rfl,HNW,HN2,HF2⟩ := hcut
 have HI2 := Lib.hid (HI.out.ext HIE.out HF2.out (fun t h => by omega))
 have HIE2 := Lib.hid (HIE.out.fr HF2.out)
 clear HFc HIc HIEc HF1
 go_upto_region 6 with fail
 go_cut [11,12] (fun a b wx => ∃ (q : Nat) (T : TG),a = pvO q o ∧ b = .int .i64 (errO o) ∧ Hid (NO pp T wx o) ∧ Hid (RO q T wx o) ∧ Hid (Fr (fun t => 1 ≤ t.1) tag T w wx))
 case first =>
  as_aux_lemma =>
   cases o with
   | none =>
    go_wp2_with (
     go_at_call 19
     refine (rnewPlace_bad place items HI2.out HNW.out).mono ?_
     rintro e w3 ⟨rfl,hw⟩
     replace hw := hw.symm
     subst hw)
    go_meet
    case rel => exact ⟨0,T2,rfl,rfl,Lib.hid trivial,Lib.hid trivial,HF2⟩
   | some P =>
    have hq := HNW.out
    obtain ⟨hp1,hp2,hp3,hp4⟩ := hq
    have HV3 := Lib.hid hp3
    have HB3 := Lib.hid hp4
    clear hp3 hp4
    go_wp2_with (
     go_at_call 19
     refine (rnewPlace_ok 610 place items HI2.out HIE2.out HF2.out.dom (by decide) hp1 hp2 HV3.out).mono ?_
     rintro e w3 ⟨q,rfl,T3,hP3,hF3⟩
     have HP3 := Lib.hid (hP3.rep_of (by decide) HB3.out)
     have HN3 : Hid (NO pp T3 w3 (some P)) := Lib.hid (HN2.out.fr hF3 (fun t h => by omega))
     have HF3 := Lib.hid (HF2.out.trans (hF3.mono (fun t h => by omega)))
     clear hF3 hP3)
    go_meet
    case rel => exact ⟨q,T3,rfl,rfl,HN3,Lib.hid HP3.out,HF3⟩
 case rest =>
 obtain ⟨q,T3,rfl,rfl,HN3,HR3,HF3⟩ := hcut
 clear HI2 HIE2 HN2 HF2
 go_upto_region 7 with fail
 go_cut [60] (fun s wx => s = .bool false ∧ Hid (NO pp T3 wx o) ∧ Hid (RO q T3 wx o) ∧ Hid (Fr (fun t => 1 ≤ t.1) tag T3 w wx))
 case first =>
  as_aux_lemma =>
   cases o
   ·simp only [pvO,errO]
    go_wp2_with fail
    go_meet
    case rel => exact ⟨rfl,HN3,HR3,HF3⟩
   ·simp only [pvO,errO]
    go_wp2_with fail
    go_meet
    case rel => exact ⟨rfl,HN3,HR3,HF3⟩
 case rest =>
 obtain ⟨rfl,HN4,HR4,HF4⟩ := hcut
 have HST4 := Lib.hid HNW.out.st
 clear HN3 HR3 HF3 HNW
 obtain ⟨mx,hmx,hmx1,hmx2⟩ : ∃ m : Nat,((m : Int) = if (ps.length : Int) > (l.length : Int) then (ps.length : Int) else (l.length : Int)) ∧ m ≤ 80 ∧ (l.length ≤ m ∧ ps.length ≤ m) := by
  by_cases h : (ps.length : Int) > (l.length : Int)
  ·exact ⟨ps.length,by rw [if_pos h],by omega,by omega⟩
  ·exact ⟨l.length,by rw [if_neg h],by omega,by omega⟩
 have hmax : ∀ (ats : Array TypeId) (ty : TypeId),Builtin.max_ ats ty #[.int .i64 (l.length : Int),.int .i64 (ps.length : Int)] = pure (.int .i64 (mx : Int)) := fun ats ty => by
  rw [hmx]
  rfl
 obtain ⟨pv,hpv⟩ : ∃ yy,yy = pvO pp o := ⟨_,rfl⟩
 obtain ⟨qv,hqv⟩ : ∃ yy,yy = pvO q o := ⟨_,rfl⟩
 rw [← hpv,← hqv]
 have HPV := Lib.hid hpv
 have HQV := Lib.hid hqv
 clear hpv hqv hmx
 go_wp2_with fail
 go_loopw [66] (fun i wr => ∃ n : Nat,n ≤ mx ∧ i = .int .i64 n ∧ ∃ (Tr : TG) (oo : Option PlaceM),Hid (NO pp Tr wr oo) ∧ Hid (RO q Tr wr oo) ∧ Hid (StI (3 * n) oo) ∧ Hid (pvO pp oo = pv ∧ pvO q oo = qv) ∧ Hid (Fr (fun t => 1 ≤ t.1) tag Tr w wr)) (fun i _ => mx - (intOf i).toNat)
 case atStart => exact ⟨0,Nat.zero_le _,rfl,T3,o,HN4,HR4,HST4,Lib.hid ⟨HPV.out.symm,HQV.out.symm⟩,HF4⟩
 case round =>
  obtain ⟨n,hn,rfl,Tr,oo,HNr,HRr,HSr,HVr,HFr⟩ := hrel
  have hokr := HFr.out.dom
  by_cases hlt : n < mx
  ·have i5 : (0 : Int) ≤ (n : Int) := by omega
   have i6 : (n : Int) < (mx : Int) := by omega
   clear hmax
   obtain ⟨b80,hb80⟩ : ∃ y : Bool,y = (l[n]?).any (fun x => x.kind == 0) := ⟨_,rfl⟩
   go_upto_region 12 with fail
   obtain ⟨wq,hwq⟩ : ∃ yy,yy = wr := ⟨_,rfl⟩
   go_cut [80] (fun s wx => s = .bool b80 ∧ Hid (Fr (fun _ => False) Tr Tr wr wx))
   case first =>
    by_cases hl : n < l.length
    ·obtain ⟨⟨ok,on,cs⟩,hx⟩ : ∃ x,l[n]? = some x := ⟨_,List.getElem?_eq_getElem hl⟩
     have e0 : b80 = (ok == 0) := by rw [hb80,hx]; rfl
     obtain ⟨ob,ooff,ocap',u,hov,o0,o1,o2,hxr⟩ := (HO.out.fr HFr.out (fun t h => by omega)).get hx
     injection hov with hov _ hov2
     subst hov hov2
     simp only at o0
     have i7 : (n : Int) < (l.length : Int) := by omega
     have HFz := Lib.hid (Fr.refl (S:=fun _ => False) HFr.out.dom)
     clear hx hxr o1 o2 hwq hb80
     go_wp2_with fail
     go_meet
     case rel => exact ⟨by rw [e0],HFz⟩
    ·have i7 : decide ((n : Int) < (l.length : Int)) = false := decide_eq_false (by omega)
     have e0 : b80 = false := by rw [hb80,List.getElem?_eq_none (by omega)]; rfl
     have HFz := Lib.hid (Fr.refl (S:=fun _ => False) HFr.out.dom)
     clear hwq hb80
     go_wp2_with fail
     go_meet
     case rel => exact ⟨by rw [e0],HFz⟩
   case rest =>
   clear hwq
   obtain ⟨rfl,HFa⟩ := hcut
   have HNa := Lib.hid (HNr.out.frF HFa.out)
   have HRa := Lib.hid (HRr.out.frF HFa.out)
   have HFb := Lib.hid (HFr.out.trans (HFa.out.mono (S' := fun t => 1 ≤ t.1) (fun _ h => h.elim)))
   clear HNr HRr HFr HFa
   go_upto_if 80 with fail
   go_cut [] (fun wx => ∃ (Tx : TG) (ox : Option PlaceM),Hid (NO pp Tx wx ox) ∧ Hid (RO q Tx wx ox) ∧ Hid (StI (3 * n + 1) ox) ∧ Hid (pvO pp ox = pv ∧ pvO q ox = qv) ∧ Hid (Fr (fun t => 1 ≤ t.1) tag Tx w wx))
   case first =>
    cases b80
    ·go_wp2_with fail
     go_meet
     case rel => exact ⟨Tr,oo,HNa,HRa,Lib.hid (HSr.out.mono (by omega)),HVr,HFb⟩
    ·as_aux_lemma =>
      obtain ⟨⟨ok,on,cs⟩,hx,hk⟩ : ∃ x,l[n]? = some x ∧ (x.kind == 0) = true := any_get hb80.symm
      have hHO := HO.out.fr HFb.out (fun t h => by omega)
      obtain ⟨ob,ooff,ocap',u,hov,o0,o1,o2,hxr⟩ := hHO.get hx
      have htb := (hHO.ext _ _ _ _ hov).1
      injection hov with hov _ hov2
      subst hov hov2
      simp only at o1 o2 hxr
      obtain ⟨UA,ucap,rfl,u2⟩ := hxr.slice
      unfold maxLen at u2
      have hokb := HFb.out.dom
      obtain ⟨E,lo,of,hof,hlen,h20,h21⟩ := propose_both oo HSr.out (by omega) on cs
      have hFd : Fr (fun _ => False) Tr Tr wc wc.drew := (Fr.refl hokb).dr
      have c20 := h20 pp Tr wc.drew (.slice UA cs.length ucap) (HNa.out.frF hFd) hFd.dom (hxr.frF hFd)
      have hnl : n < l.length := (List.getElem?_eq_some_iff.1 hx).1
      have i7 : (n : Int) < (l.length : Int) := by omega
      rw [HVr.out.1] at c20
      have C20 := Lib.hid c20
      have H21 := Lib.hid h21
      have HX := Lib.hid hxr
      have HOF := Lib.hid hof
      have HTB := Lib.hid htb
      have O1 := Lib.hid o1
      have O2 := Lib.hid o2
      have HSD := Lib.hid (And.intro (hFd.cellF o1) (hFd.cellF o2))
      have HFD := Lib.hid hFd
      have eE : (E != E) = false := by simp
      clear hx hxr o0 o1 o2 hHO h20 h21 hof c20 hk hb80 htb hFd
      go_upto_region 13 with fail
      refine start_ (n:=19) (S:=fun w' => w'.cell? ⟨ob,ooff + n * 3 + 1,none⟩ = some (.int .i64 on) ∧ w'.cell? ⟨ob,ooff + n * 3 + 2,none⟩ = some (.slice UA cs.length ucap)) (ds := [11]) #[f_,f_,f_,f_,f_,f_,f_,f_,f_,f_,f_,f_,f_,f_,f_,f_,f_,f_,f_] (by kernel_rfl) rfl rfl ⟨HSD.out.1,HSD.out.2⟩ (fun hHeld => ?_)
      refine pv_ (i:=0) (N:=some 82) (v:=?_) (a':=?_) rfl rfl (by kernel_rfl) (fun _ _ _ h => h) (Or.inl ⟨by rfl,?_⟩) ?_ ?_
      rotate_left;intro w';go_simp;with_reducible rfl;rotate_left;simp only [Act.put,sA_,sB_,sC_,i64_w,i32_w];rfl
      refine pv_ (i:=1) (N:=some 83) (v:=?_) (a':=?_) rfl rfl (by kernel_rfl) (fun _ _ _ h => h) (Or.inl ⟨by rfl,?_⟩) ?_ ?_
      rotate_left;intro w';go_simp;with_reducible rfl;rotate_left;simp only [Act.put,sA_,sB_,sC_,i64_w,i32_w];rfl
      refine pv_ (i:=2) (N:=some 84) (v:=?_) (a':=?_) rfl rfl (by kernel_rfl) (fun _ _ _ h => h) (Or.inl ⟨by rfl,?_⟩) ?_ ?_
      rotate_left;intro w';go_simp;with_reducible rfl;rotate_left;simp only [Act.put,sA_,sB_,sC_,i64_w,i32_w];rfl
      refine pv_ (i:=3) (N:=some 85) (v:=?_) (a':=?_) rfl rfl (by kernel_rfl) (fun _ _ _ h => h) (Or.inl ⟨by rfl,?_⟩) ?_ ?_
      rotate_left;intro w';go_simp;with_reducible rfl;rotate_left;simp only [Act.put,sA_,sB_,sC_,i64_w,i32_w];rfl
      refine pv_ (i:=4) (N:=some 86) (v:=?_) (a':=?_) rfl rfl (by kernel_rfl) (fun _ _ _ h => h) (Or.inl ⟨by rfl,?_⟩) ?_ ?_
      rotate_left;intro w';go_simp;with_reducible rfl;rotate_left;simp only [Act.put,sA_,sB_,sC_,i64_w,i32_w];rfl
      refine pv_ (i:=6) (N:=some 88) (v:=?_) (a':=?_) rfl rfl (by kernel_rfl) (fun _ _ _ h => h) (Or.inl ⟨by rfl,?_⟩) ?_ ?_
      rotate_left;intro w';go_simp;with_reducible rfl;rotate_left;simp only [Act.put,sA_,sB_,sC_,i64_w,i32_w];rfl
      refine pv_ (i:=7) (N:=some 89) (v:=?_) (a':=?_) rfl rfl (by kernel_rfl) (fun _ _ _ h => h) (Or.inl ⟨by rfl,?_⟩) ?_ ?_
      rotate_left;intro w';go_simp;with_reducible rfl;rotate_left;simp only [Act.put,sA_,sB_,sC_,i64_w,i32_w];rfl
      refine pv_ (i:=8) (N:=some 90) (v:=?_) (a':=?_) rfl rfl (by kernel_rfl) (fun _ _ _ h => h) (Or.inl ⟨by rfl,?_⟩) ?_ ?_
      rotate_left;intro w';go_simp;with_reducible rfl;rotate_left;simp only [Act.put,sA_,sB_,sC_,i64_w,i32_w];rfl
      refine pv_ (i:=9) (N:=some 91) (v:=?_) (a':=?_) rfl rfl (by kernel_rfl) (fun _ _ _ h => h) (Or.inl ⟨by rfl,?_⟩) ?_ ?_
      rotate_left;intro w';go_simp;with_reducible rfl;rotate_left;simp only [Act.put,sA_,sB_,sC_,i64_w,i32_w];rfl
      refine tv_ (i:=5) (N:=some 87) (v:=?_) (a':=?_) rfl rfl (by kernel_rfl) (fun _ _ _ h => h) (Or.inl ⟨by rfl,?_⟩) hHeld ?_ ?_
      rotate_left;rintro w' ⟨s0,s1⟩;go_simp;with_reducible rfl;rotate_left;simp only [Act.put,sA_,sB_,sC_,i64_w,i32_w];rfl
      refine tv_ (i:=10) (N:=some 92) (v:=?_) (a':=?_) rfl rfl (by kernel_rfl) (fun _ _ _ h => h) (Or.inl ⟨by rfl,?_⟩) hHeld ?_ ?_
      rotate_left;rintro w' ⟨s0,s1⟩;go_simp;with_reducible rfl;rotate_left;simp only [Act.put,sA_,sB_,sC_,i64_w,i32_w];rfl
      refine last_ (i:=11) (N:=some 93) #[t_,t_,t_,t_,t_,t_,t_,t_,t_,t_,t_,t_,f_,f_,f_,f_,f_,f_,f_] rfl rfl (by kernel_rfl) (by decide) (fun K hK => ?_)
      refine goes_ Try.func20 (by kernel_rfl) rfl #[pv,.int .i64 on,.slice UA cs.length ucap] (by rfl) rfl rfl (by simp only [List.map_toArray,List.map_cons,List.map_nil]; rfl) ?_
      refine Calls.mono C20.out ?_
      rintro e w5 ⟨xp,OA,ocap,VA,vcap,rfl,T5,hp5,hv5,hN5,hF5⟩
      have hdd : Fr (fun t => t.1 = 600) Tr T5 wc w5 := (HFD.out.mono (fun _ h => h.elim)).trans hF5
      have HP5 := Lib.hid hp5
      have HN5 := Lib.hid hN5
      have HD5 := Lib.hid hdd
      clear hF5 hp5 hv5 hN5 hdd
      refine ⟨_,rfl,?_⟩
      refine hK.out _ _ ?_
      clear hK K
      refine norm_ (a':=?_) ?_ ?_
      rotate_left
      ·show Act.put _ (some 93) _ = _
       simp only [Act.put,sA_,sB_,sC_,i64_w,i32_w]
       rfl
      refine pv_ (i:=12) (N:=some 81) (v:=?_) (a':=?_) rfl rfl (by kernel_rfl) (fun _ _ _ h => h) (Or.inl ⟨by rfl,?_⟩) ?_ ?_
      rotate_left;intro w';go_simp;with_reducible rfl;rotate_left;simp only [Act.put,sA_,sB_,sC_,i64_w,i32_w];rfl
      refine pv_ (i:=13) (N:=some 94) (v:=?_) (a':=?_) rfl rfl (by kernel_rfl) (fun _ _ _ h => h) (Or.inl ⟨by rfl,?_⟩) ?_ ?_
      rotate_left;intro w';go_simp;with_reducible rfl;rotate_left;simp only [Act.put,sA_,sB_,sC_,i64_w,i32_w];rfl
      refine pv_ (i:=14) (N:=some 95) (v:=?_) (a':=?_) rfl rfl (by kernel_rfl) (fun _ _ _ h => h) (Or.inl ⟨by rfl,?_⟩) ?_ ?_
      rotate_left;intro w';go_simp;with_reducible rfl;rotate_left;simp only [Act.put,sA_,sB_,sC_,i64_w,i32_w];rfl
      refine pv_ (i:=15) (N:=some 96) (v:=?_) (a':=?_) rfl rfl (by kernel_rfl) (fun _ _ _ h => h) (Or.inl ⟨by rfl,?_⟩) ?_ ?_
      rotate_left;intro w';go_simp;with_reducible rfl;rotate_left;simp only [Act.put,sA_,sB_,sC_,i64_w,i32_w];rfl
      refine pv_ (i:=16) (N:=some 14) (v:=?_) (a':=?_) rfl rfl (by kernel_rfl) (fun _ _ _ h => h) (Or.inl ⟨by rfl,?_⟩) ?_ ?_
      rotate_left;intro w';go_simp;with_reducible rfl;rotate_left;simp only [Act.put,sA_,sB_,sC_,i64_w,i32_w];rfl
      refine pv_ (i:=17) (N:=some 15) (v:=?_) (a':=?_) rfl rfl (by kernel_rfl) (fun _ _ _ h => h) (Or.inl ⟨by rfl,?_⟩) ?_ ?_
      rotate_left;intro w';go_simp;with_reducible rfl;rotate_left;simp only [Act.put,sA_,sB_,sC_,i64_w,i32_w];rfl
      refine pv_ (i:=18) (N:=some 16) (v:=?_) (a':=?_) rfl rfl (by kernel_rfl) (fun _ _ _ h => h) (Or.inl ⟨by rfl,?_⟩) ?_ ?_
      rotate_left;intro w';go_simp;with_reducible rfl;rotate_left;simp only [Act.put,sA_,sB_,sC_,i64_w,i32_w];rfl
      refine done_ (by kernel_rfl) ?_
      clear hHeld
      go_upto_region 14 with fail
      have HF5 := Lib.hid (HFb.out.trans (HD5.out.mono (fun t h => by omega)))
      have HT5 : Hid ((T5 ob).1 = 0) := Lib.hid (by rw [HD5.out.same ob (World.block_lt_of_cell? _ _ O1.out)]; exact HTB.out)
      have k1 : w5.cell? ⟨ob,ooff + n * 3 + 1,none⟩ = some (.int .i64 on) := HD5.out.cell O1.out (by rw [HTB.out]; decide)
      have k2 : w5.cell? ⟨ob,ooff + n * 3 + 2,none⟩ = some (.slice UA cs.length ucap) := HD5.out.cell O2.out (by rw [HTB.out]; decide)
      have HR5 : Hid (RO q T5 w5 oo) := Lib.hid (HRa.out.fr HD5.out (fun t h => by omega))
      have HX5 : Hid (RdX T5 w5 (.slice UA cs.length ucap) cs) := Lib.hid (HX.out.fr HD5.out (fun t h => by omega))
      have hok5 := HD5.out.dom
      have c21 : ∀ W : World,Fr (fun _ => False) T5 T5 w5 W → Calls Try.prog 21 #[qv,.int .i64 on,.slice UA cs.length ucap] W fun e w' => ∃ OA ocap CA ccap,e = .returned (.tuple #[.agg #[.slice OA lo.length ocap,.slice CA 0 ccap],.int .i64 E]) ∧ ∃ tag' : TG,PostsV 611 tag' w' (.slice OA lo.length ocap) lo ∧ CamesV 611 tag' w' (.slice CA 0 ccap) [] ∧ RO q tag' w' (of xp) ∧ Fr (fun t => t.1 = 610 ∨ t.1 = 611) T5 tag' W w' := fun W hf => by
       have := H21.out q T5 W (.slice UA cs.length ucap) xp (HR5.out.frF hf) hf.dom (HX5.out.frF hf)
       rw [HVr.out.2] at this
       exact this
      have C21 := Lib.hid c21
      clear c21
      have HG0 : Hid (Fr (fun _ => False) T5 T5 w5 w5.drew) := Lib.hid (Fr.drew hok5)
      refine start_ (n:=18) (S:=fun w' => w'.cell? ⟨ob,ooff + n * 3 + 1,none⟩ = some (.int .i64 on) ∧ w'.cell? ⟨ob,ooff + n * 3 + 2,none⟩ = some (.slice UA cs.length ucap)) (ds := [16]) #[f_,f_,f_,f_,f_,f_,f_,f_,f_,f_,f_,f_,f_,f_,f_,f_,f_,f_] (by kernel_rfl) rfl rfl ⟨k1,k2⟩ (fun hHeld => ?_)
      generalize w5.drew = W0 at HG0 hHeld ⊢
      refine pure_ (i:=0) (N:=some 98) (v:=?_) (a':=?_) #[t_,f_,f_,f_,f_,f_,f_,f_,f_,f_,f_,f_,f_,f_,f_,f_,f_,f_] rfl rfl (by kernel_rfl) (fun _ _ _ h => h) (Or.inl ⟨by rfl,?_⟩) ?_ ?_
      rotate_left;intro w';go_simp;with_reducible rfl;rotate_left;simp only [Act.put,sA_,sB_,sC_,i64_w,i32_w];rfl
      refine pure_ (i:=1) (N:=some 99) (v:=?_) (a':=?_) #[t_,t_,f_,f_,f_,f_,f_,f_,f_,f_,f_,f_,f_,f_,f_,f_,f_,f_] rfl rfl (by kernel_rfl) (fun _ _ _ h => h) (Or.inl ⟨by rfl,?_⟩) ?_ ?_
      rotate_left;intro w';go_simp;with_reducible rfl;rotate_left;simp only [Act.put,sA_,sB_,sC_,i64_w,i32_w];rfl
      refine pure_ (i:=2) (N:=some 100) (v:=?_) (a':=?_) #[t_,t_,t_,f_,f_,f_,f_,f_,f_,f_,f_,f_,f_,f_,f_,f_,f_,f_] rfl rfl (by kernel_rfl) (fun _ _ _ h => h) (Or.inl ⟨by rfl,?_⟩) ?_ ?_
      rotate_left;intro w';go_simp;with_reducible rfl;rotate_left;simp only [Act.put,sA_,sB_,sC_,i64_w,i32_w];rfl
      refine pure_ (i:=3) (N:=some 101) (v:=?_) (a':=?_) #[t_,t_,t_,t_,f_,f_,f_,f_,f_,f_,f_,f_,f_,f_,f_,f_,f_,f_] rfl rfl (by kernel_rfl) (fun _ _ _ h => h) (Or.inl ⟨by rfl,?_⟩) ?_ ?_
      rotate_left;intro w';go_simp;with_reducible rfl;rotate_left;simp only [Act.put,sA_,sB_,sC_,i64_w,i32_w];rfl
      refine pure_ (i:=4) (N:=some 102) (v:=?_) (a':=?_) #[t_,t_,t_,t_,t_,f_,f_,f_,f_,f_,f_,f_,f_,f_,f_,f_,f_,f_] rfl rfl (by kernel_rfl) (fun _ _ _ h => h) (Or.inl ⟨by rfl,?_⟩) ?_ ?_
      rotate_left;intro w';go_simp;with_reducible rfl;rotate_left;simp only [Act.put,sA_,sB_,sC_,i64_w,i32_w];rfl
      refine pure_ (i:=6) (N:=some 104) (v:=?_) (a':=?_) #[t_,t_,t_,t_,t_,f_,t_,f_,f_,f_,f_,f_,f_,f_,f_,f_,f_,f_] rfl rfl (by kernel_rfl) (fun _ _ _ h => h) (Or.inl ⟨by rfl,?_⟩) ?_ ?_
      rotate_left;intro w';go_simp;with_reducible rfl;rotate_left;simp only [Act.put,sA_,sB_,sC_,i64_w,i32_w];rfl
      refine pure_ (i:=7) (N:=some 105) (v:=?_) (a':=?_) #[t_,t_,t_,t_,t_,f_,t_,t_,f_,f_,f_,f_,f_,f_,f_,f_,f_,f_] rfl rfl (by kernel_rfl) (fun _ _ _ h => h) (Or.inl ⟨by rfl,?_⟩) ?_ ?_
      rotate_left;intro w';go_simp;with_reducible rfl;rotate_left;simp only [Act.put,sA_,sB_,sC_,i64_w,i32_w];rfl
      refine pure_ (i:=8) (N:=some 106) (v:=?_) (a':=?_) #[t_,t_,t_,t_,t_,f_,t_,t_,t_,f_,f_,f_,f_,f_,f_,f_,f_,f_] rfl rfl (by kernel_rfl) (fun _ _ _ h => h) (Or.inl ⟨by rfl,?_⟩) ?_ ?_
      rotate_left;intro w';go_simp;with_reducible rfl;rotate_left;simp only [Act.put,sA_,sB_,sC_,i64_w,i32_w];rfl
      refine pure_ (i:=9) (N:=some 107) (v:=?_) (a':=?_) #[t_,t_,t_,t_,t_,f_,t_,t_,t_,t_,f_,f_,f_,f_,f_,f_,f_,f_] rfl rfl (by kernel_rfl) (fun _ _ _ h => h) (Or.inl ⟨by rfl,?_⟩) ?_ ?_
      rotate_left;intro w';go_simp;with_reducible rfl;rotate_left;simp only [Act.put,sA_,sB_,sC_,i64_w,i32_w];rfl
      refine take_ (i:=5) (N:=some 103) (v:=?_) (a':=?_) #[t_,t_,t_,t_,t_,t_,t_,t_,t_,t_,f_,f_,f_,f_,f_,f_,f_,f_] rfl rfl (by kernel_rfl) (fun _ _ _ h => h) (Or.inl ⟨by rfl,?_⟩) hHeld ?_ ?_
      rotate_left;rintro w' ⟨s0,s1⟩;go_simp;with_reducible rfl;rotate_left;simp only [Act.put,sA_,sB_,sC_,i64_w,i32_w];rfl
      refine take_ (i:=10) (N:=some 108) (v:=?_) (a':=?_) #[t_,t_,t_,t_,t_,t_,t_,t_,t_,t_,t_,f_,f_,f_,f_,f_,f_,f_] rfl rfl (by kernel_rfl) (fun _ _ _ h => h) (Or.inl ⟨by rfl,?_⟩) hHeld ?_ ?_
      rotate_left;rintro w' ⟨s0,s1⟩;go_simp;with_reducible rfl;rotate_left;simp only [Act.put,sA_,sB_,sC_,i64_w,i32_w];rfl
      refine join_ (σ := (Option Addr × Nat × Option Addr × Nat) × Nat) 2 #[t_,t_,t_,t_,t_,t_,t_,t_,t_,t_,t_,t_,t_,t_,t_,t_,f_,f_] (fun s => [(109,.tuple #[.agg #[.slice s.1.1 lo.length s.1.2.1,.slice s.1.2.2.1 0 s.1.2.2.2],.int .i64 E]),(97,.tuple #[.agg #[.slice s.1.1 lo.length s.1.2.1,.slice s.1.2.2.1 0 s.1.2.2.2],.int .i64 E]),(110,.agg #[.slice s.1.1 lo.length s.1.2.1,.slice s.1.2.2.1 0 s.1.2.2.2]),(111,.int .i64 E),(17,.pointer (some ⟨s.2,0,none⟩))]) (MidQ q lo (of xp) T5 w5) ?_ ?_
      rotate_left
      ·intro hCont
       refine two_ (i:=11) (j:=15) (Ni := some 109) (Nj := some 17) #[t_,t_,t_,t_,t_,t_,t_,t_,t_,t_,t_,t_,f_,f_,f_,f_,f_,f_] #[t_,t_,t_,t_,t_,t_,t_,t_,t_,t_,t_,f_,f_,f_,f_,t_,f_,f_] rfl rfl rfl rfl (by kernel_rfl) (by decide) (by decide) (fun K hK => ?_) (fun K hK => ?_)
       ·skip
        refine goes_ Try.func21 (by kernel_rfl) rfl #[qv,.int .i64 on,.slice UA cs.length ucap] (by rfl) rfl rfl (by simp only [List.map_toArray,List.map_cons,List.map_nil]; rfl) ?_
        with_reducible refine (C21.out W0 HG0.out).mono ?_
        rintro e W1 ⟨OB,ocap6,VB,vcap6,rfl,T6,hp6,hv6,hR6,hs⟩
        have HS6 := Lib.hid ((HG0.out.mono (S' := fun t => t.1 = 610 ∨ t.1 = 611) (fun _ h => h.elim)).trans hs)
        have HP6 := Lib.hid hp6
        have HV6 := Lib.hid hv6
        have HR6 := Lib.hid hR6
        clear hs hp6 hv6 hR6
        refine ⟨_,rfl,?_⟩
        refine hK.out _ _ ⟨HS6.out.cell k1 (by rw [HT5.out]; decide),HS6.out.cell k2 (by rw [HT5.out]; decide)⟩ (fun hHeld => ?_)
        clear hK K
        refine norm_ (a':=?_) ?_ ?_
        rotate_left
        ·show Act.put _ (some 109) _ = _
         simp only [Act.put,sA_,sB_,sC_,i64_w,i32_w]
         rfl
        refine pure_ (i:=12) (N:=some 97) (v:=?_) (a':=?_) #[t_,t_,t_,t_,t_,t_,t_,t_,t_,t_,t_,t_,t_,f_,f_,f_,f_,f_] rfl rfl (by kernel_rfl) (fun _ _ _ h => h) (Or.inl ⟨by rfl,?_⟩) ?_ ?_
        rotate_left;intro w';go_simp;with_reducible rfl;rotate_left;simp only [Act.put,sA_,sB_,sC_,i64_w,i32_w];rfl
        refine pure_ (i:=13) (N:=some 110) (v:=?_) (a':=?_) #[t_,t_,t_,t_,t_,t_,t_,t_,t_,t_,t_,t_,t_,t_,f_,f_,f_,f_] rfl rfl (by kernel_rfl) (fun _ _ _ h => h) (Or.inl ⟨by rfl,?_⟩) ?_ ?_
        rotate_left;intro w';go_simp;with_reducible rfl;rotate_left;simp only [Act.put,sA_,sB_,sC_,i64_w,i32_w];rfl
        refine pure_ (i:=14) (N:=some 111) (v:=?_) (a':=?_) #[t_,t_,t_,t_,t_,t_,t_,t_,t_,t_,t_,t_,t_,t_,t_,f_,f_,f_] rfl rfl (by kernel_rfl) (fun _ _ _ h => h) (Or.inl ⟨by rfl,?_⟩) ?_ ?_
        rotate_left;intro w';go_simp;with_reducible rfl;rotate_left;simp only [Act.put,sA_,sB_,sC_,i64_w,i32_w];rfl
        refine one_ (i:=15) (N:=some 17) #[t_,t_,t_,t_,t_,t_,t_,t_,t_,t_,t_,t_,t_,t_,t_,t_,f_,f_] rfl rfl (by kernel_rfl) (by decide) (fun K hK => ?_)
        refine value_ (w1:=?_) (v:=?_) (by rfl) rfl ?_ ?_
        rotate_left 2
        ·go_simp
         constructor
         ·rfl
         ·rfl
        obtain ⟨W2,hW⟩ : ∃ yy,yy = World.alloc W1 (.cells #[.slice none 0 0,.slice none 0 0] 41) := ⟨_,rfl⟩
        rw [← hW]
        obtain ⟨cb,hcb⟩ : ∃ yy,yy = (World.heap W1).size := ⟨_,rfl⟩
        have HB6 : Hid (W2.heap[cb]? = some (.cells #[.slice none 0 0,.slice none 0 0] 41 (0,0))) := Lib.hid (by rw [hW,hcb]; exact Go.Ng.heap_alloc_at _ _)
        have hA : Fr (fun _ => False) T6 T6 W1 W2 := by rw [hW]; exact Fr.alloc HS6.out.dom _
        have HS7 := Lib.hid (HS6.out.trans (hA.mono (fun _ h => h.elim)))
        have HP7 := Lib.hid (HP6.out.fr hA (fun _ h => h.elim))
        have HV7 := Lib.hid (HV6.out.fr hA (fun _ h => h.elim))
        have HR7 := Lib.hid (HR6.out.frF hA)
        have HTZ : Hid ((T6 cb).1 = 0) := Lib.hid (by rw [hcb]; exact HS6.out.dom.new)
        have HSZ : Hid (w5.heap.size ≤ cb) := Lib.hid (by rw [hcb]; exact HS6.out.size)
        rw [← hcb]
        clear hW hcb hA
        refine hK.out _ _ ⟨HS7.out.cell k1 (by rw [HT5.out]; decide),HS7.out.cell k2 (by rw [HT5.out]; decide)⟩ (fun hHeld => ?_)
        clear hK K
        refine norm_ (a':=?_) ?_ ?_
        rotate_left
        ·show Act.put _ (some 17) _ = _
         simp only [Act.put,sA_,sB_,sC_,i64_w,i32_w]
         rfl
        exact norm_ (by simp only [putAll,Act.put,sA_,sB_,sC_]) (hCont ((OB,ocap6,VB,vcap6),cb) _ ⟨HB6.out,HSZ.out,T6,HTZ.out,HP7.out,HV7.out,HR7.out,HS7.out⟩)
       ·skip
        refine value_ (w1:=?_) (v:=?_) (by rfl) rfl ?_ ?_
        rotate_left 2
        ·go_simp
         constructor
         ·rfl
         ·rfl
        obtain ⟨W1,hW⟩ : ∃ yy,yy = World.alloc W0 (.cells #[.slice none 0 0,.slice none 0 0] 41) := ⟨_,rfl⟩
        rw [← hW]
        obtain ⟨cb,hcb⟩ : ∃ yy,yy = (World.heap W0).size := ⟨_,rfl⟩
        have HB1 : Hid (W1.heap[cb]? = some (.cells #[.slice none 0 0,.slice none 0 0] 41 (0,0))) := Lib.hid (by rw [hW,hcb]; exact Go.Ng.heap_alloc_at _ _)
        have HG1 : Hid (Fr (fun _ => False) T5 T5 w5 W1) := Lib.hid (by rw [hW]; exact HG0.out.al _)
        have HTC : Hid ((T5 cb).1 = 0) := Lib.hid (by rw [hcb]; exact HG0.out.dom.new)
        have HSZ : Hid (w5.heap.size ≤ cb) := Lib.hid (by rw [hcb]; exact HG0.out.size)
        rw [← hcb]
        clear hW hcb
        refine hK.out _ _ ⟨HG1.out.cellF k1,HG1.out.cellF k2⟩ (fun hHeld => ?_)
        clear hK K
        refine norm_ (a':=?_) ?_ ?_
        rotate_left
        ·show Act.put _ (some 17) _ = _
         simp only [Act.put,sA_,sB_,sC_,i64_w,i32_w]
         rfl
        refine one_ (i:=11) (N:=some 109) #[t_,t_,t_,t_,t_,t_,t_,t_,t_,t_,t_,t_,f_,f_,f_,t_,f_,f_] rfl rfl (by kernel_rfl) (by decide) (fun K hK => ?_)
        refine goes_ Try.func21 (by kernel_rfl) rfl #[qv,.int .i64 on,.slice UA cs.length ucap] (by rfl) rfl rfl (by simp only [List.map_toArray,List.map_cons,List.map_nil]; rfl) ?_
        with_reducible refine (C21.out W1 HG1.out).mono ?_
        rintro e W2 ⟨OB,ocap6,VB,vcap6,rfl,T6,hp6,hv6,hR6,hs⟩
        have HS6 := Lib.hid ((HG1.out.mono (S' := fun t => t.1 = 610 ∨ t.1 = 611) (fun _ h => h.elim)).trans hs)
        have HP6 := Lib.hid hp6
        have HV6 := Lib.hid hv6
        have HR6 := Lib.hid hR6
        have HTZ : Hid ((T6 cb).1 = 0) := Lib.hid (by rw [hs.same cb (lt_of_heap HB1.out)]; exact HTC.out)
        have HB6 := Lib.hid (hs.heap HB1.out (by rw [HTC.out]; decide))
        clear hs hp6 hv6 hR6
        refine ⟨_,rfl,?_⟩
        refine hK.out _ _ ⟨HS6.out.cell k1 (by rw [HT5.out]; decide),HS6.out.cell k2 (by rw [HT5.out]; decide)⟩ (fun hHeld => ?_)
        clear hK K
        refine norm_ (a':=?_) ?_ ?_
        rotate_left
        ·show Act.put _ (some 109) _ = _
         simp only [Act.put,sA_,sB_,sC_,i64_w,i32_w]
         rfl
        refine pure_ (i:=12) (N:=some 97) (v:=?_) (a':=?_) #[t_,t_,t_,t_,t_,t_,t_,t_,t_,t_,t_,t_,t_,f_,f_,t_,f_,f_] rfl rfl (by kernel_rfl) (fun _ _ _ h => h) (Or.inl ⟨by rfl,?_⟩) ?_ ?_
        rotate_left;intro w';go_simp;with_reducible rfl;rotate_left;simp only [Act.put,sA_,sB_,sC_,i64_w,i32_w];rfl
        refine pure_ (i:=13) (N:=some 110) (v:=?_) (a':=?_) #[t_,t_,t_,t_,t_,t_,t_,t_,t_,t_,t_,t_,t_,t_,f_,t_,f_,f_] rfl rfl (by kernel_rfl) (fun _ _ _ h => h) (Or.inl ⟨by rfl,?_⟩) ?_ ?_
        rotate_left;intro w';go_simp;with_reducible rfl;rotate_left;simp only [Act.put,sA_,sB_,sC_,i64_w,i32_w];rfl
        refine pure_ (i:=14) (N:=some 111) (v:=?_) (a':=?_) #[t_,t_,t_,t_,t_,t_,t_,t_,t_,t_,t_,t_,t_,t_,t_,t_,f_,f_] rfl rfl (by kernel_rfl) (fun _ _ _ h => h) (Or.inl ⟨by rfl,?_⟩) ?_ ?_
        rotate_left;intro w';go_simp;with_reducible rfl;rotate_left;simp only [Act.put,sA_,sB_,sC_,i64_w,i32_w];rfl
        exact norm_ (by simp only [putAll,Act.put,sA_,sB_,sC_]) (hCont ((OB,ocap6,VB,vcap6),cb) _ ⟨HB6.out,HSZ.out,T6,HTZ.out,HP6.out,HV6.out,HR6.out,HS6.out⟩)
      rintro ⟨⟨OB,ocap6,VB,vcap6⟩,b7⟩ w6 ⟨hb,hs,T6,ht,hp6,hv6,hR6,hg⟩
      simp only at hb hs ht hp6 hv6
      have HTZ := Lib.hid ht
      have HB := Lib.hid hb
      have HSZ := Lib.hid hs
      have HP6 := Lib.hid hp6
      have HR6 := Lib.hid hR6
      have HG := Lib.hid hg
      have z0 : w6.cell? ⟨b7,0,none⟩ = some (.slice none 0 0) := cell_of hb 0
      have z1 : w6.cell? ⟨b7,1,none⟩ = some (.slice none 0 0) := cell_of hb 1
      have fz0 := free_of hb 0
      have fz1 := free_of hb 1
      have hHeld := And.intro (hg.cell k1 (by rw [HT5.out]; decide)) (hg.cell k2 (by rw [HT5.out]; decide))
      clear hb hs hg ht hp6 hv6 hR6
      refine norm_ (a':=?_) ?_ ?_
      rotate_left
      ·simp only [putAll,Act.put,sA_,sB_,sC_]
       rfl
      refine last_ (i:=16) (N:=none) #[t_,t_,t_,t_,t_,t_,t_,t_,t_,t_,t_,t_,t_,t_,t_,t_,t_,f_] rfl rfl (by kernel_rfl) (by decide) (fun K hK => ?_)
      refine skip_ (w1:=?_) (by rfl) rfl ?_ ?_
      rotate_left
      ·go_simp
       rfl
      refine hK.out _ _ ?_
      clear hK K
      refine pure_ (i:=17) (N:=some 18) (v:=?_) (a':=?_) #[t_,t_,t_,t_,t_,t_,t_,t_,t_,t_,t_,t_,t_,t_,t_,t_,t_,t_] rfl rfl (by kernel_rfl) (fun _ _ _ h => h) (Or.inl ⟨by rfl,?_⟩) ?_ ?_
      rotate_left;intro w';go_simp;with_reducible rfl;rotate_left;simp only [Act.put,sA_,sB_,sC_,i64_w,i32_w];rfl
      refine done_ (by kernel_rfl) ?_
      clear hHeld k1 k2
      go_upto_region 15 with fail
      obtain ⟨w7,hw7⟩ : ∃ yy,yy = (w6.setCell ⟨b7,0,none⟩ (.slice OB lo.length ocap6)).setCell ⟨b7,1,none⟩ (.slice VB 0 vcap6) := ⟨_,rfl⟩
      rw [← hw7]
      have hL7 : Fr (fun t => t.1 = 610 ∨ t.1 = 611) T5 T6 w5 w7 := by
       have h0 := HSZ.out
       rw [hw7]
       exact (HG.out.scn h0 _ _).scn h0 _ _
      have hzz : w7.heap[b7]? = some (.cells #[.slice OB lo.length ocap6,.slice VB 0 vcap6] 41 (0,0)) := by
       rw [hw7,Go.Ng.heap_setCell_same (Go.Ng.heap_setCell_same HB.out 0 _) 1 _]
       rfl
      have y0 : w7.cell? ⟨b7,0,none⟩ = some (.slice OB lo.length ocap6) := cell_of hzz 0
      have hLz : Fr (fun t => t.1 = 0) T6 T6 w6 w7 := by
       have ht : (T6 b7).1 = 0 := HTZ.out
       rw [hw7]
       exact ((Fr.refl HG.out.dom).sc b7 _ _ ht).sc b7 _ _ ht
      have HP7 := Lib.hid (HP6.out.fr hLz (fun t h => by omega)).rd
      have HR7 := Lib.hid (HR6.out.fr hLz (fun t h => by omega))
      have HP57 := Lib.hid (HP5.out.fr hL7 (fun t h => by omega)).rd
      have HN7 := Lib.hid (HN5.out.fr hL7 (fun t h => by omega))
      have HF7 := Lib.hid (HF5.out.trans (hL7.mono (fun t h => by omega)))
      have HPV2 : Hid (pvO pp (of xp) = pv ∧ pvO q (of xp) = qv) := Lib.hid ⟨((HOF.out xp).2 pp).trans HVr.out.1,((HOF.out xp).2 q).trans HVr.out.2⟩
      have hok7 := HF7.out.dom
      clear hw7 hzz hL7 hLz z0 z1 fz0 fz1
      go_wp2_with (
       go_at_call 22
       refine (samePosts_ok lo HP57.out HP7.out hok7 hlen).mono ?_
       rintro e w8 ⟨rfl,hF8⟩
       have HN8 := Lib.hid (HN7.out.frF hF8)
       have HR8 := Lib.hid (HR7.out.frF hF8)
       have HF8 := Lib.hid (HF7.out.trans (hF8.mono (fun _ h => h.elim)))
       clear hF8)
      go_meet
      case rel => exact ⟨T6,of xp,HN8,HR8,Lib.hid (HOF.out xp).1,HPV2,HF8⟩
   case rest =>
   obtain ⟨Tx,ox,HNx,HRx,HSx,HVx,HFx⟩ := hcut
   clear HNa HRa HFb HSr HVr hb80
   obtain ⟨wB,hwB⟩ : ∃ yy,yy = wc := ⟨_,rfl⟩
   rw [← hwB] at HNx HRx HFx ⊢
   clear hwB
   obtain ⟨b138,hb138⟩ : ∃ y : Bool,y = (l[n]?).any (fun x => x.kind == 1) := ⟨_,rfl⟩
   go_upto_region 17 with fail
   obtain ⟨wq,hwq⟩ : ∃ yy,yy = wB := ⟨_,rfl⟩
   go_cut [138] (fun s wx => s = .bool b138 ∧ Hid (Fr (fun _ => False) Tx Tx wB wx))
   case first =>
    by_cases hl : n < l.length
    ·obtain ⟨⟨ok,on,cs⟩,hx⟩ : ∃ x,l[n]? = some x := ⟨_,List.getElem?_eq_getElem hl⟩
     have e0 : b138 = (ok == 1) := by rw [hb138,hx]; rfl
     obtain ⟨ob,ooff,ocap',u,hov,o0,o1,o2,hxr⟩ := (HO.out.fr HFx.out (fun t h => by omega)).get hx
     injection hov with hov _ hov2
     subst hov hov2
     simp only at o0
     have i7 : (n : Int) < (l.length : Int) := by omega
     have HFz := Lib.hid (Fr.refl (S:=fun _ => False) HFx.out.dom)
     clear hx hxr o1 o2 hwq hb138
     go_wp2_with fail
     go_meet
     case rel => exact ⟨by rw [e0],HFz⟩
    ·have i7 : decide ((n : Int) < (l.length : Int)) = false := decide_eq_false (by omega)
     have e0 : b138 = false := by rw [hb138,List.getElem?_eq_none (by omega)]; rfl
     have HFz := Lib.hid (Fr.refl (S:=fun _ => False) HFx.out.dom)
     clear hwq hb138
     go_wp2_with fail
     go_meet
     case rel => exact ⟨by rw [e0],HFz⟩
   case rest =>
   clear hwq
   obtain ⟨rfl,HFa⟩ := hcut
   have HNa := Lib.hid (HNx.out.frF HFa.out)
   have HRa := Lib.hid (HRx.out.frF HFa.out)
   have HFb := Lib.hid (HFx.out.trans (HFa.out.mono (S' := fun t => 1 ≤ t.1) (fun _ h => h.elim)))
   clear HNx HRx HFx HFa
   go_upto_if 138 with fail
   go_cut [] (fun wx => ∃ (Tx : TG) (ox : Option PlaceM),Hid (NO pp Tx wx ox) ∧ Hid (RO q Tx wx ox) ∧ Hid (StI (3 * n + 2) ox) ∧ Hid (pvO pp ox = pv ∧ pvO q ox = qv) ∧ Hid (Fr (fun t => 1 ≤ t.1) tag Tx w wx))
   case first =>
    cases b138
    ·go_wp2_with fail
     go_meet
     case rel => exact ⟨Tx,ox,HNa,HRa,Lib.hid (HSx.out.mono (by omega)),HVx,HFb⟩
    ·as_aux_lemma =>
      obtain ⟨⟨ok,on,cs⟩,hx,hk⟩ : ∃ x,l[n]? = some x ∧ (x.kind == 1) = true := any_get hb138.symm
      have hHO := HO.out.fr HFb.out (fun t h => by omega)
      obtain ⟨ob,ooff,ocap',u,hov,o0,o1,o2,hxr⟩ := hHO.get hx
      have htb := (hHO.ext _ _ _ _ hov).1
      injection hov with hov _ hov2
      subst hov hov2
      simp only at o1
      have hokb := HFb.out.dom
      obtain ⟨E,lo,o',hS',hpv',hlen,h23,h24⟩ := drop_both ox HSx.out (by omega) on
      have c23 := h23 pp Tx wc HNa.out hokb
      have hnl : n < l.length := (List.getElem?_eq_some_iff.1 hx).1
      have i7 : (n : Int) < (l.length : Int) := by omega
      rw [HVx.out.1] at c23
      have C23 := Lib.hid c23
      have H24 := Lib.hid h24
      have HS2 := Lib.hid hS'
      have HPV2 : Hid (pvO pp o' = pv ∧ pvO q o' = qv) := Lib.hid ⟨(hpv' pp).trans HVx.out.1,(hpv' q).trans HVx.out.2⟩
      have HTB := Lib.hid htb
      have eE : (E != E) = false := by simp
      clear hx hxr o0 o2 hHO h23 h24 hS' hpv' c23 hk hb138 htb
      go_wp2_with (first
      | (
       go_at_call 23
       refine C23.out.mono ?_
       rintro e w5 ⟨OA,ocap,rfl,T5,hp5,hN5,hF5⟩
       have o1' := hF5.cell o1 (by rw [HTB.out]; decide)
       have c24 := H24.out q T5 w5 (HRa.out.fr hF5 (fun t h => by omega)) hF5.dom
       rw [HVx.out.2] at c24
       have C24 := Lib.hid c24
       have HP5 := Lib.hid hp5
       have HN5 := Lib.hid hN5
       have HF5 := Lib.hid (HFb.out.trans (hF5.mono (fun t h => by omega)))
       clear hF5 hp5 hN5 c24 o1)
      | (
       go_at_call 24
       refine C24.out.mono ?_
       rintro e w6 ⟨OB,ocap6,rfl,T6,hp6,hR6,hF6⟩
       have HP6 := Lib.hid hp6.rd
       have HP56 := Lib.hid (HP5.out.fr hF6 (fun t h => by omega)).rd
       have HN6 := Lib.hid (HN5.out.fr hF6 (fun t h => by omega))
       have HR6 := Lib.hid hR6
       have HF6 := Lib.hid (HF5.out.trans (hF6.mono (fun t h => by omega)))
       have hok6 := hF6.dom
       clear hF6 hp6 hR6)
      | (
       go_at_call 22
       refine (samePosts_ok lo HP56.out HP6.out hok6 hlen).mono ?_
       rintro e w7 ⟨rfl,hF7⟩
       have HN7 := Lib.hid (HN6.out.frF hF7)
       have HR7 := Lib.hid (HR6.out.frF hF7)
       have HF7 := Lib.hid (HF6.out.trans (hF7.mono (fun _ h => h.elim)))
       clear hF7))
      go_meet
      case rel => exact ⟨T6,o',HN7,HR7,Lib.hid (HS2.out.mono (by omega)),HPV2,HF7⟩
   case rest =>
   as_aux_lemma =>
    obtain ⟨Ty,oy,HNy,HRy,HSy,HVy,HFy⟩ := hcut
    clear HNa HRa HFb HSx HVx hb138
    obtain ⟨wC,hwC⟩ : ∃ yy,yy = wc := ⟨_,rfl⟩
    rw [← hwC] at HNy HRy HFy ⊢
    clear hwC
    have hoky := HFy.out.dom
    by_cases hl : n < ps.length
    ·obtain ⟨⟨mk,ms,md,mp,mi,mv⟩,hx⟩ : ∃ x,ps[n]? = some x := ⟨_,List.getElem?_eq_getElem hl⟩
     have hHP := HP.out.ext HPE.out HFy.out (fun t h => by omega)
     obtain ⟨cb,coff,ccap2,hcv,_,_,hce⟩ := Rd.elem (enc := Post.cells) hHP (fun _ => rfl) (by decide) hx
     have htb := ((HPE.out.fr HFy.out) _ _ _ _ hcv).1
     injection hcv with hcv _ hcv2
     subst hcv hcv2
     have i7 : (n : Int) < (ps.length : Int) := by omega
     have m0 : wC.cell? ⟨cb,coff + n * 6,none⟩ = some (.int .i64 mk) := hce 0 _ rfl
     have m1 : wC.cell? ⟨cb,coff + n * 6 + 1,none⟩ = some (.int .i64 ms) := hce 1 _ rfl
     have m2 : wC.cell? ⟨cb,coff + n * 6 + 2,none⟩ = some (.int .i64 md) := hce 2 _ rfl
     have m3 : wC.cell? ⟨cb,coff + n * 6 + 3,none⟩ = some (.int .i64 mp) := hce 3 _ rfl
     have m4 : wC.cell? ⟨cb,coff + n * 6 + 4,none⟩ = some (.int .i64 mi) := hce 4 _ rfl
     have m5 : wC.cell? ⟨cb,coff + n * 6 + 5,none⟩ = some (.int .i64 mv) := hce 5 _ rfl
     obtain ⟨E,lo,lc,o',hS',hpv',hlen1,hlen2,h25,h26⟩ := take_both oy HSy.out (by omega) ⟨mk,ms,md,mp,mi,mv⟩
     have c25 := h25 pp Ty wC HNy.out hoky
     rw [HVy.out.1] at c25
     have C25 : Hid (Calls Try.prog 25 #[pv,.agg #[.int .i64 mk,.int .i64 ms,.int .i64 md,.int .i64 mp,.int .i64 mi,.int .i64 mv]] wC (NTook pp E lo lc o' Ty wC)) := Lib.hid c25
     have H26 := Lib.hid h26
     have HS2 := Lib.hid hS'
     have HPV2 : Hid (pvO pp o' = pv ∧ pvO q o' = qv) := Lib.hid ⟨(hpv' pp).trans HVy.out.1,(hpv' q).trans HVy.out.2⟩
     have HTB := Lib.hid htb
     have eE : (E != E) = false := by simp
     clear hx hHP hce h25 h26 hS' hpv' c25 htb
     go_upto_region 25 with (first
     | (
      go_at_call 25
      refine C25.out.mono ?_
      rintro e w5 ⟨OA,ocap,VA,vcap,rfl,T5,hp5,hv5,hN5,hF5⟩
      have m0' := hF5.cell m0 (by rw [HTB.out]; decide)
      have m1' := hF5.cell m1 (by rw [HTB.out]; decide)
      have m2' := hF5.cell m2 (by rw [HTB.out]; decide)
      have m3' := hF5.cell m3 (by rw [HTB.out]; decide)
      have m4' := hF5.cell m4 (by rw [HTB.out]; decide)
      have m5' := hF5.cell m5 (by rw [HTB.out]; decide)
      have c26 := H26.out q T5 w5 (HRy.out.fr hF5 (fun t h => by omega)) hF5.dom
      rw [HVy.out.2] at c26
      have C26 : Hid (Calls Try.prog 26 #[qv,.agg #[.int .i64 mk,.int .i64 ms,.int .i64 md,.int .i64 mp,.int .i64 mi,.int .i64 mv]] w5 (RTookV q E lo lc o' T5 w5)) := Lib.hid c26
      have HP5 := Lib.hid hp5
      have HC5 := Lib.hid hv5
      have HN5 := Lib.hid hN5
      have HF5 := Lib.hid (HFy.out.trans (hF5.mono (fun t h => by omega)))
      clear hF5 hp5 hv5 hN5 c26 m0 m1 m2 m3 m4 m5)
     | (
      go_at_call 26
      refine C26.out.mono ?_
      rintro e w6 ⟨OB,ocap6,VB,vcap6,rfl,T6,hp6,hv6,hR6,hF6⟩
      have HP6 := Lib.hid hp6
      have HC6 := Lib.hid hv6
      have HP56 := Lib.hid (HP5.out.fr hF6 (fun t h => by omega))
      have HC56 := Lib.hid (HC5.out.fr hF6 (fun t h => by omega))
      have HN6 := Lib.hid (HN5.out.fr hF6 (fun t h => by omega))
      have HR6 := Lib.hid hR6
      have HF6 := Lib.hid (HF5.out.trans (hF6.mono (fun t h => by omega)))
      have hok6 := hF6.dom
      clear hF6 hp6 hv6 hR6))
     obtain ⟨w7,hw7⟩ : ∃ yy,yy = w6.alloc (.cells #[.slice OB lo.length ocap6,.slice VB lc.length vcap6] 41) := ⟨_,rfl⟩
     obtain ⟨b7,hb7⟩ : ∃ yy,yy = w6.heap.size := ⟨_,rfl⟩
     rw [← hw7,← hb7]
     have hF7 : Fr (fun _ => False) T6 T6 w6 w7 := by rw [hw7]; exact Fr.alloc hok6 _
     have y0 : w7.cell? ⟨b7,0,none⟩ = some (.slice OB lo.length ocap6) := by rw [hw7,hb7]; go_simp
     have y1 : w7.cell? ⟨b7,1,none⟩ = some (.slice VB lc.length vcap6) := by rw [hw7,hb7]; go_simp
     have Y1 := Lib.hid y1
     have HP7 := Lib.hid (HP6.out.fr hF7 (fun _ h => h.elim)).rd
     have HC7 := Lib.hid (HC6.out.fr hF7 (fun _ h => h.elim))
     have HP57 := Lib.hid (HP56.out.fr hF7 (fun _ h => h.elim)).rd
     have HC57 := Lib.hid (HC56.out.fr hF7 (fun _ h => h.elim))
     have HN7 := Lib.hid (HN6.out.frF hF7)
     have HR7 := Lib.hid (HR6.out.frF hF7)
     have HF7 := Lib.hid (HF6.out.trans (hF7.mono (fun _ h => h.elim)))
     have hok7 := HF7.out.dom
     clear hw7 hb7 hF7 y1 m0' m1' m2' m3' m4' m5'
     go_wp2_with (first
     | (
      go_at_call 22
      refine (samePosts_ok lo HP57.out HP7.out hok7 hlen1).mono ?_
      rintro e w8 ⟨rfl,hF8⟩
      have y1 := hF8.cellF Y1.out
      have HC8 := Lib.hid (HC7.out.fr hF8 (fun _ h => h.elim)).rd
      have HC58 := Lib.hid (HC57.out.fr hF8 (fun _ h => h.elim)).rd
      have HN8 := Lib.hid (HN7.out.frF hF8)
      have HR8 := Lib.hid (HR7.out.frF hF8)
      have HF8 := Lib.hid (HF7.out.trans (hF8.mono (fun _ h => h.elim)))
      have hok8 := HF8.out.dom
      clear hF8 y0)
     | (
      go_at_call 27
      refine (sameCame_ok lc HC58.out HC8.out hok8 hlen2).mono ?_
      rintro e w9 ⟨rfl,hF9⟩
      have HN9 := Lib.hid (HN8.out.frF hF9)
      have HR9 := Lib.hid (HR8.out.frF hF9)
      have HF9 := Lib.hid (HF8.out.trans (hF9.mono (fun _ h => h.elim)))
      clear hF9))
     go_roundw
     case rel => exact ⟨n + 1,by omega,by go_num,T6,o',HN9,HR9,Lib.hid (HS2.out.mono (by omega)),HPV2,HF9⟩
     case measure => simp [intOf]; omega
    ·have i7 : decide ((n : Int) < (ps.length : Int)) = false := decide_eq_false (by omega)
     go_wp2_with fail
     go_roundw
     case rel => exact ⟨n + 1,by omega,by go_num,Ty,oy,HNy,HRy,Lib.hid (HSy.out.mono (by omega)),HVy,HFy⟩
     case measure => simp [intOf]; omega
  ·as_aux_lemma =>
    have : n = mx := by omega
    subst this
    have hT := tells_both oo HSr.out (by omega) pp q
    rw [HVr.out.1,HVr.out.2] at hT
    have HT := Lib.hid hT
    have HOr := Lib.hid (HO.out.fr HFr.out (fun t h => by omega))
    clear hT
    go_wp2_with (
     go_at_call 28
     refine (samePlace_ok HT.out items.length (by omega) ⟨HNr.out,HRr.out⟩ hokr HOr.out hl80).mono ?_
     rintro e w5 ⟨rfl,T5,hF5⟩
     have HF5 := Lib.hid (HFr.out.trans (hF5.mono (fun _ h => h.elim)))
     clear hF5)
    go_ret
    exact ⟨rfl,T5,HF5.out⟩
end Go.Proofs.Ytclkokkppgchfaa
namespace Go.Proofs.Ytclkokkppgchfaa
open Go.ChangeShapes Go.WideShapes Go.ChangeAt Go.RowKit Go.Joins Go.Deep Go.Ng
section
variable {H : Type} {enc : TypeId × Value → H} {w : World} {base base0 : Nat} {spare : Nat → Bool} {held : Bool}
theorem open_ints_arg {v : Value} {d : DataW H} {p : List MemPlace} (hv : Value.okWide Try.prog w .any base0 22 v) (h : DataW.Trod enc Try.prog w base spare held 22 v d p) : ∃ l : List Int,Rd 1 w v l.length (ints l) ∧ Ext tag0 w v := by
 obtain ⟨a,len,cap,rfl⟩ := okWide_slice Try.underlying22 hv
 obtain ⟨n,hn⟩ := h
 refine open_intsRd hn (base0 := base0) ?_
 simpa only [Value.okWide,Try.underlying22] using hv
end
end Go.Proofs.Ytclkokkppgchfaa
namespace Go.Proofs.Ytclkokkppgchfaa
open Go.ChangeShapes Go.WideShapes Go.ChangeAt Go.RowKit Go.Joins Go.Deep Go.Ng
section
variable {H : Type} {enc : TypeId × Value → H} {w : World} {base base0 : Nat} {spare : Nat → Bool} {held : Bool}
theorem open_ops_arg {v : Value} {d : DataW H} {p : List MemPlace} (hv : Value.okWide Try.prog w .any base0 23 v) (h : DataW.Trod enc Try.prog w base spare held 23 v d p) : ∃ l : List OpM,OpsRd tag0 w v l := by
 obtain ⟨a,len,cap,rfl⟩ := okWide_slice Try.underlying23 hv
 obtain ⟨n,hn⟩ := h
 refine open_ops hn (base0 := base0) ?_
 simpa only [Value.okWide,Try.underlying23] using hv
theorem open_int_arg {v : Value} {d : DataW H} {p : List MemPlace} (hv : Value.okWide Try.prog w .any base0 3 v) (h : DataW.Trod enc Try.prog w base spare held 3 v d p) : ∃ n : Int,v = .int .i64 n := by
 obtain ⟨n,h1,_⟩ := open_int Try.underlying3 hv h
 exact ⟨n,h1⟩
end
end Go.Proofs.Ytclkokkppgchfaa
namespace Go.Proofs.Ytclkokkppgchfaa
open Go.ChangeShapes Go.WideShapes Go.ChangeAt Go.RowKit Go.Joins Go.Deep Go.Ng
theorem Try.under49 : ∃ f0 f1 f2 f3 f4 f5,Try.prog.underlying 49 = some (.struct #[f0,f1,f2,f3,f4,f5]) ∧ f0.type = 3 ∧ f1.type = 3 ∧ f2.type = 3 ∧ f3.type = 3 ∧ f4.type = 3 ∧ f5.type = 3 ∧ oneCellFields Try.prog #[f0,f1,f2,f3,f4,f5] = true ∧ Try.prog.cellsOf 49 = 6 :=
 ⟨_,_,_,_,_,_,Try.underlying49,by kernel_rfl,by kernel_rfl,by kernel_rfl,by kernel_rfl,by kernel_rfl,by kernel_rfl,by kernel_rfl,by kernel_rfl⟩
section
variable {H : Type} {enc : TypeId × Value → H} {w : World} {base base0 : Nat} {spare : Nat → Bool} {held : Bool}
theorem open_posts {fuel : Nat} {v : Value} {x : DataW H × List MemPlace} (h : DataW.trod enc Try.prog w base spare held fuel 24 [v] = some x) (ho : Cell.okWide Try.prog w .any base0 24 v) : ∃ l : List Post,Rd 6 w v l.length (posts l) ∧ Ext tag0 w v := by
 obtain ⟨f0,f1,f2,f3,f4,f5,hu,t0,t1,t2,t3,t4,t5,hone,hC⟩ := Try.under49
 rcases open_slice_fields Try.underlying24 hu hone hC h with ⟨hcs,_⟩ | ⟨a,len,cap,m,hcs,hl,hm,hlm,hf⟩
 ·simp at hcs
  subst hcs
  exact ⟨[],⟨rfl,by simp [posts],.inl ⟨rfl,rfl⟩⟩,fun b off m cap h => by cases h⟩
 ·simp at hcs
  subst hcs
  obtain ⟨ha,hb⟩ := slice_addr Try.underlying24 ho
  generalize a.block = b at ha hb
  generalize a.off = off at ha
  subst ha
  have hx : ∀ i < len,∃ c : Post,w.cell? ⟨b,off + (i * 6),none⟩ = some (.int .i64 c.kind) ∧ w.cell? ⟨b,off + (i * 6 + 1),none⟩ = some (.int .i64 c.src) ∧ w.cell? ⟨b,off + (i * 6 + 2),none⟩ = some (.int .i64 c.dst) ∧ w.cell? ⟨b,off + (i * 6 + 3),none⟩ = some (.int .i64 c.prop) ∧ w.cell? ⟨b,off + (i * 6 + 4),none⟩ = some (.int .i64 c.item) ∧ w.cell? ⟨b,off + (i * 6 + 5),none⟩ = some (.int .i64 c.version) := by
   intro i hi
   obtain ⟨n,hn⟩ := hf i (by omega)
   obtain ⟨v0,y0,c0,d0⟩ := hn 0 f0 rfl
   obtain ⟨v1,y1,c1,d1⟩ := hn 1 f1 rfl
   obtain ⟨v2,y2,c2,d2⟩ := hn 2 f2 rfl
   obtain ⟨v3,y3,c3,d3⟩ := hn 3 f3 rfl
   obtain ⟨v4,y4,c4,d4⟩ := hn 4 f4 rfl
   obtain ⟨v5,y5,c5,d5⟩ := hn 5 f5 rfl
   rw [t0] at d0
   obtain ⟨n0,e0,_⟩ := DataW.trod_int Try.underlying3 d0
   rw [t1] at d1
   obtain ⟨n1,e1,_⟩ := DataW.trod_int Try.underlying3 d1
   rw [t2] at d2
   obtain ⟨n2,e2,_⟩ := DataW.trod_int Try.underlying3 d2
   rw [t3] at d3
   obtain ⟨n3,e3,_⟩ := DataW.trod_int Try.underlying3 d3
   rw [t4] at d4
   obtain ⟨n4,e4,_⟩ := DataW.trod_int Try.underlying3 d4
   rw [t5] at d5
   obtain ⟨n5,e5,_⟩ := DataW.trod_int Try.underlying3 d5
   simp at e0 e1 e2 e3 e4 e5
   subst e0 e1 e2 e3 e4 e5
   rw [add_lit] at c0 c1 c2 c3 c4 c5
   exact ⟨⟨n0,n1,n2,n3,n4,n5⟩,c0,c1,c2,c3,c4,c5⟩
  obtain ⟨l,hll,hlx⟩ := list_of len hx
  refine ⟨l,⟨flat_len _ 6 (fun _ => rfl) l,posts_one l,.inr ⟨b,off,cap,by rw [hll],by rw [hll]; exact hl,hm,flat_cells (sz := 6) (fun _ => rfl) (by decide) (fun i x hx r u hu => ?_)⟩⟩,ext0 fun b' off' m cap' hv => by injection hv with hv; injection hv with hv; injection hv with hv; subst hv; exact hb⟩
  obtain ⟨k0,k1,k2,k3,k4,k5⟩ := hlx i x hx
  match r with
  | 0 => simp [Post.cells] at hu; subst hu; exact k0
  | 1 => simp [Post.cells] at hu; subst hu; exact k1
  | 2 => simp [Post.cells] at hu; subst hu; exact k2
  | 3 => simp [Post.cells] at hu; subst hu; exact k3
  | 4 => simp [Post.cells] at hu; subst hu; exact k4
  | 5 => simp [Post.cells] at hu; subst hu; exact k5
  | r + 6 => simp [Post.cells] at hu
theorem open_posts_arg {v : Value} {d : DataW H} {p : List MemPlace} (hv : Value.okWide Try.prog w .any base0 24 v) (h : DataW.Trod enc Try.prog w base spare held 24 v d p) : ∃ l : List Post,Rd 6 w v l.length (posts l) ∧ Ext tag0 w v := by
 obtain ⟨a,len,cap,rfl⟩ := okWide_slice Try.underlying24 hv
 obtain ⟨n,hn⟩ := h
 refine open_posts hn (base0 := base0) ?_
 simpa only [Value.okWide,Try.underlying24] using hv
end
end Go.Proofs.Ytclkokkppgchfaa
