/- A part of the proof: texts of this session, joined. -/
import Derived.Test.YtclkokkppgchfaaNegoPlacesOwn14
import Derived.Test.YtclkokkppgchfaaNegoPlacesOwn11
import Derived.Test.YtclkokkppgchfaaShort
set_option linter.unusedSimpArgs false
set_option linter.unusedVariables false
set_option maxHeartbeats 12800000
set_option maxRecDepth 100000
namespace Go.Proofs.Ytclkokkppgchfaa
open Go.RowKit Go.Ng Go.Proofs.YtclkokkppgchfaaW.PrintLast
theorem find_idx {l : List (Int × PropM)} {n : Int} {x : PropM} (h : find l n = some x) : ∃ i : Nat,l[i]? = some (n,x) ∧ idxR n l = i := by
 unfold find at h
 rw [Option.map_eq_some_iff] at h
 obtain ⟨⟨a,b⟩,h1,h2⟩ := h
 simp only at h2
 subst h2
 rw [List.find?_eq_some_iff_getElem] at h1
 obtain ⟨h3,i,hi,h4,h5⟩ := h1
 have h6 : a = n := by simpa using h3
 subst h6
 have hx : l[i]? = some (a,b) := by rw [List.getElem?_eq_getElem hi,h4]
 refine ⟨i,hx,idxR_at hx (fun i' hi' x hx' => ?_)⟩
 obtain ⟨h7,rfl⟩ := List.getElem?_eq_some_iff.1 hx'
 have := h5 i' hi'
 simpa using this
theorem nodup_idx {l : List (Int × PropM)} (hn : (l.map (·.1)).Nodup) {n : Int} {x : PropM} {i : Nat} (hi : l[i]? = some (n,x)) : ∀ (i' : Nat) y',l[i']? = some (n,y') → i' = i := by
 intro i' y' h'
 obtain ⟨h1,h2⟩ := List.getElem?_eq_some_iff.1 hi
 obtain ⟨h3,h4⟩ := List.getElem?_eq_some_iff.1 h'
 have hp := List.pairwise_iff_getElem.1 hn
 rcases Nat.lt_trichotomy i' i with h | h | h
 ·have := hp i' i (by simpa using h3) (by simpa using h1) h
  simp [h2,h4] at this
 ·exact h
 ·have := hp i i' (by simpa using h1) (by simpa using h3) h
  simp [h2,h4] at this
theorem upd_keys (l : List (Int × PropM)) (n : Int) (x : PropM) : (upd l n x).map (·.1) = l.map (·.1) := by
 simp only [upd,List.map_map]
 refine List.map_congr_left fun y _ => ?_
 simp only [Function.comp]
 split
 ·rename_i e; exact e.symm
 ·rfl
theorem openM_asks {P : PlaceM} {m : Post} {x : PropM} (h : find P.props m.prop = some x) : openM P m = if asksB x m.item = true then some x else none := by
 simp only [openM,h]
 congr 1
 simp only [asksB,Bool.and_eq_true,beq_iff_eq,eq_iff_iff]
 constructor
 ·rintro ⟨h1,h2⟩
  refine ⟨h1,?_⟩
  cases hc : x.claims[x.granted]? with
  | none => rw [hc] at h2; cases h2
  | some c => rw [hc] at h2; simpa using h2
 ·rintro ⟨h1,h2⟩
  refine ⟨h1,?_⟩
  cases hc : x.claims[x.granted]? with
  | none => rw [hc] at h2; cases h2
  | some c => rw [hc] at h2; simpa using h2
def MidC (R : Nat) (tag : Nat → Tag) (w : World) (n : Nat) (l : List Post) (c : Came) (s : Value × Value) (w' : World) : Prop :=
 ∃ (T : Nat → Tag) (A : Option Addr) (cap cb : Nat),s.1 = .slice A n cap ∧ s.2 = .slice (some ⟨cb,0,none⟩) 1 1 ∧ Row T (R,1,0) 49 6 w' (.slice A n cap) n (posts l) ∧ Row T (R,2,0) 106 3 w' (.slice (some ⟨cb,0,none⟩) 1 1) 1 (cames [c]) ∧ Fr (fun t => t = (R,1,0)) tag T w w'
section
variable {S : Tag → Prop} {tag tag' : Nat → Tag} {w w' : World} {k p R : Nat} {P P' : PlaceM}
theorem rfind_val (n : Int) (i : Nat) (hi : idxR n P.props = i) (h : RPRep tag k w p P) :
  Calls Try.prog 74 #[.pointer (some ⟨p,0,none⟩),.int .i64 n] w fun e w' => e = .returned (.int .i64 (i : Int)) ∧ w' = w := hi ▸ rfind_ok n h
theorem rasks_val {i : Nat} {n item : Int} {y : PropM} (r : Bool) (hr : asksB y item = r) (h : RPRep tag k w p P) (hok : TagOk tag w) (hi : P.props[i]? = some (n,y)) (hg : y.state = 1 → y.granted < y.claims.length) :
  Calls Try.prog 118 #[.pointer (some ⟨p,0,none⟩),.int .i64 (i : Int),.int .i64 item] w fun e w' => e = .returned (.bool r) ∧ Fr (fun _ => False) tag tag w w' := hr ▸ rasks_ok h hok hi hg
theorem rgranted_ok {x : PropM} (m : Post) (h : RPRep tag k w p P) (hok : TagOk tag w) (hR : R ≠ 0) (hRk : R ≠ k) (hW : WF P) (hnd : (P.props.map (·.1)).Nodup) (hf : find P.props m.prop = some x) (hpr : 0 ≤ m.prop)
  (ho : P.out = []) (hc : P.came = []) :
  Calls Try.prog 83 #[.pointer (some ⟨p,0,none⟩),Post.val m] w (ROut R k p tag w (grantedM P m)) := by
 have hop := openM_asks hf
 obtain ⟨mk,ms,md,mp,mi,mv⟩ := m
 simp only at hf hpr hop
 obtain ⟨i,hi,hix⟩ := find_idx hf
 have hxm : (mp,x) ∈ P.props := List.mem_of_getElem? hi
 have hgt := hW.opens _ _ hxm
 have hgle := hW.le _ _ hxm
 have hfew := hW.few _ _ hxm
 have hcls := hW.claims _ _ hxm
 have HU := Lib.hid (nodup_idx hnd hi)
 have HND := Lib.hid hnd
 have HI := Lib.hid hi
 have HIX := Lib.hid hix
 have HGT := Lib.hid hgt
 have HCLS := Lib.hid hcls
 have H := Lib.hid h
 have HO := Lib.hid ho
 have HC := Lib.hid hc
 have HOP := Lib.hid hop
 have hk0 := h.k0
 have HRk := Lib.hid hRk
 clear h hi hix hgt hcls hf hxm hnd hop ho hc hW
 unfold Post.val
 go_enter Try.func83,Try.ntmps83
 go_upto_region 1 with fail
 obtain ⟨w1,hw1⟩ : ∃ x,x = (w.alloc (.cells #[.int .i64 mk,.int .i64 ms,.int .i64 md,.int .i64 mp,.int .i64 mi,.int .i64 mv] 49)).alloc (.cells #[.slice none 0 0,.slice none 0 0] 41) := ⟨_,rfl⟩
 rw [← hw1]
 obtain ⟨b,hb⟩ : ∃ x,x = w.heap.size := ⟨_,rfl⟩
 obtain ⟨b1,hb1⟩ : ∃ x,x = w.heap.size + 1 := ⟨_,rfl⟩
 rw [← hb1,← hb]
 have hwb : w.heap.size ≤ b := by omega
 have hbb : b < b1 := by omega
 have HF1 : Hid (Fr (fun _ => False) tag tag w w1) := Lib.hid (by rw [hw1]; exact ((Fr.refl hok).al _).al _)
 have HM1 : Hid (w1.heap[b]? = some (.cells #[.int .i64 mk,.int .i64 ms,.int .i64 md,.int .i64 mp,.int .i64 mi,.int .i64 mv] 49 (0,0))) := Lib.hid (by rw [hw1,hb]; exact heap_alloc_lt (heap_alloc_at _ _) _)
 have HZ1 : Hid (w1.heap[b1]? = some (.cells #[.slice none 0 0,.slice none 0 0] 41 (0,0))) := Lib.hid (by rw [hw1,hb1]; exact heap_alloc_at1 _ _ _)
 have HTB : Hid ((tag b).1 = 0 ∧ (tag b1).1 = 0) := Lib.hid ⟨tag_new hok (by omega),tag_new hok (by omega)⟩
 have HP1 := Lib.hid (H.out.frF HF1.out)
 have hok1 := HF1.out.dom
 clear hw1 hb hb1
 have m3 : w1.cell? ⟨b,3,none⟩ = some (.int .i64 mp) := cell_of HM1.out 3
 have m4 : w1.cell? ⟨b,4,none⟩ = some (.int .i64 mi) := cell_of HM1.out 4
 obtain ⟨r,hr⟩ : ∃ r,asksB x mi = r := ⟨_,rfl⟩
 have HRR := Lib.hid hr
 clear hr
 go_upto_region 3 with (first
  | (go_at_call 74; refine (rfind_val mp i HIX.out HP1.out).mono ?_; rintro e w5 ⟨rfl,h5⟩; have h5 := h5.symm; subst h5)
  | (go_at_call 118; refine (rasks_val (i:=i) (n:=mp) (item := mi) (y := x) r HRR.out HP1.out hok1 HI.out HGT.out).mono ?_; rintro e w2 ⟨rfl,hF2⟩; have HF2 := Lib.hid (HF1.out.trans hF2); have HM2 := Lib.hid (hF2.heap HM1.out (fun x => x)); have HZ2 := Lib.hid (hF2.heap HZ1.out (fun x => x)); have HP2 := Lib.hid (HP1.out.frF hF2); have hok2 := hF2.dom; clear hF2))
 clear m3 m4
 cases r
 ·have hm : grantedM P ⟨mk,ms,md,mp,mi,mv⟩ = P := by
   have h1 : openM P ⟨mk,ms,md,mp,mi,mv⟩ = none := by rw [HOP.out,if_neg (by rw [HRR.out]; decide)]
   simp only [grantedM,h1]
  have HMM := Lib.hid hm
  clear hm
  have r0 : w2.cell? ⟨b1,0,none⟩ = some (.slice none 0 0) := cell_of HZ2.out 0
  have r1 : w2.cell? ⟨b1,1,none⟩ = some (.slice none 0 0) := cell_of HZ2.out 1
  have rz0 := free_of HZ2.out 0
  have rz1 := free_of HZ2.out 1
  go_wp2_with fail
  obtain ⟨wz,hwz⟩ : ∃ yy,yy = (w2.setCell ⟨b1,0,none⟩ (.slice none 0 0)).setCell ⟨b1,1,none⟩ (.slice none 0 0) := ⟨_,rfl⟩
  rw [← hwz]
  have hzz : wz.heap[b1]? = some (.cells #[.slice none 0 0,.slice none 0 0] 41 (0,0)) := by
   rw [hwz,Go.Ng.heap_setCell_same (Go.Ng.heap_setCell_same HZ2.out 0 _) 1 _]
   rfl
  have rr0 : wz.cell? ⟨b1,0,none⟩ = some (.slice none 0 0) := cell_of hzz 0
  have rr1 : wz.cell? ⟨b1,1,none⟩ = some (.slice none 0 0) := cell_of hzz 1
  refine bodyPost_ret (v:=.agg #[.slice none 0 0,.slice none 0 0]) (by simp [results,Try.results83,go_sem,rr0,rr1]) rfl ?_
  clear rr0 rr1
  rw [HMM.out]
  refine ⟨_,_,tag,rfl,by rw [HO.out]; exact Row.nil _ _ _ _ _,by rw [HC.out]; exact Row.nil _ _ _ _ _,?_,by rw [hwz]; exact ((HF2.out.up.scn (by omega) _ _).scn (by omega) _ _)⟩
  rw [hwz]
  exact HP2.out.fr (S:=fun t => t.1 = 0) (((Fr.refl hok2).sc b1 _ _ HTB.out.2).sc b1 _ _ HTB.out.2) (fun r i => hk0)
 ·have hopx : openM P ⟨mk,ms,md,mp,mi,mv⟩ = some x := by rw [HOP.out,if_pos HRR.out]
  have hst : x.state = 1 := by have := HRR.out; simp only [asksB,Bool.and_eq_true,beq_iff_eq] at this; exact this.1
  have HOX := Lib.hid hopx
  have hglt := HGT.out hst
  have HST := Lib.hid hst
  clear hopx hst
  have i1 : (0 : Int) ≤ (i : Int) := by omega
  have i3 : (0 : Int) ≤ (x.granted : Int) := by omega
  have i4 : (x.granted : Int) ≤ 64 := by omega
  obtain ⟨ava,iva,pva,g1,g2,g3,prsa,g6,g7,g8⟩ := HP2.out.cells
  obtain ⟨PAa,pcapa,rfl,q1a,q2a⟩ := g7.form
  unfold maxLen at q2a
  have hila : i < prsa.length := by have := (List.getElem?_eq_some_iff.1 HI.out).1; omega
  obtain ⟨⟨xn,xc,xs,xg⟩,hx⟩ : ∃ c,prsa[i]? = some c := ⟨_,List.getElem?_eq_getElem hila⟩
  have hrp := g8 i mp x _ HI.out hx
  obtain ⟨r1,r2,r3,r4,r5⟩ := hrp
  simp only at r1 r2 r3 r4 r5
  replace r1 := r1.symm
  subst r1 r2 r3
  obtain ⟨pba,hpv,hpt,hps,hce⟩ := Row.elem (enc := RPr.cells) g7 (fun _ => rfl) (by decide) hx
  subst hpv
  obtain ⟨CAa,ccapa,rfl,z1a,z2a⟩ := r4.slice
  unfold maxLen at z2a
  have c3 : w2.cell? ⟨p,3,none⟩ = some (.slice (some ⟨pba,0,none⟩) prsa.length pcapa) := cell_of g1 3
  have e1 : w2.cell? ⟨pba,i * 4 + 1,none⟩ = some (.slice CAa x.claims.length ccapa) := hce 1 _ rfl
  have e2 : w2.cell? ⟨pba,i * 4 + 2,none⟩ = some (.int .i64 x.state) := hce 2 _ rfl
  have e3 : w2.cell? ⟨pba,i * 4 + 3,none⟩ = some (.int .i64 (x.granted : Int)) := hce 3 _ rfl
  have ez2 : w2.frozen? ⟨pba,i * 4 + 2,none⟩ = false := Row.free' g7 (by rw [rprs_len]; omega)
  have ez3 : w2.frozen? ⟨pba,i * 4 + 3,none⟩ = false := Row.free' g7 (by rw [rprs_len]; omega)
  have i2a : (i : Int) < (prsa.length : Int) := by omega
  have hppa : p ≠ pba := ne_of_tag HP2.out.ptr hpt (by simp)
  have hbpa : b ≠ pba := fun e => by have := HTB.out.1; rw [e,hpt] at this; exact hk0 this
  have hbqa : b1 ≠ pba := fun e => by have := HTB.out.2; rw [e,hpt] at this; exact hk0 this
  have G1a := Lib.hid g1
  have G6a := Lib.hid g6
  have G7a := Lib.hid g7
  have G8a := Lib.hid g8
  have HXa := Lib.hid hx
  have R4a := Lib.hid r4
  have R5a := Lib.hid r5
  have HPBa := Lib.hid hpt
  clear g1 g2 g3 g6 g7 g8 hx r4 r5 hce hpt hps
  go_upto_region 6 with fail
  clear c3 e1 e2 e3 ez2 ez3
  obtain ⟨w3,hW⟩ : ∃ yy,yy = w2.setCell ⟨pba,i * 4 + 3,none⟩ (.int .i64 ((x.granted : Int) + 1)) := ⟨_,rfl⟩
  rw [← hW]
  have hG : Fr (fun t => t = (k,4,0)) tag tag w2 w3 := by rw [hW]; exact Fr.setCell hok2 (a := ⟨pba,_,none⟩) HPBa.out _
  have hrow : Row tag (k,4,0) 140 4 w3 (.slice (some ⟨pba,0,none⟩) prsa.length pcapa) prsa.length ((prsa.set i ⟨mp,.slice CAa x.claims.length ccapa,x.state,((x.granted : Int) + 1)⟩).flatMap RPr.cells) := by
   have := rprs_set3 prsa i _ ((x.granted : Int) + 1) HXa.out
   rw [hW,← this]
   exact G7a.out.put_cell (by rw [rprs_len]; omega) _
  have hP : RPRep tag k w3 p (setProp P mp { x with granted := x.granted + 1 }) := HP2.out.set_prop HI.out HU.out hG (fun t h => .inl h) G1a.out G6a.out G8a.out hrow (y' := { x with granted := x.granted + 1 }) ⟨rfl,rfl,rfl,R4a.out.owned R5a.out hG (by simp),R5a.out.fr hG⟩
  have HP3 := Lib.hid hP
  have HG3 := Lib.hid hG
  have HF3 : Hid (Fr (fun t => t = (k,4,0)) tag tag w w3) := Lib.hid ((HF2.out.up).trans hG)
  have HM3 := Lib.hid (hG.heap HM2.out (t0_ne HTB.out.1 hk0))
  have HZ3 := Lib.hid (hG.heap HZ2.out (t0_ne HTB.out.2 hk0))
  have hok3 := hG.dom
  clear hW hG hrow hP
  have HI3 : Hid ((setProp P mp { x with granted := x.granted + 1 }).props[i]? = some (mp,{ x with granted := x.granted + 1 })) := Lib.hid (upd_get HI.out)
  have HU3 := Lib.hid (nodup_idx (l := (setProp P mp { x with granted := x.granted + 1 }).props) (by show ((upd P.props mp _).map (·.1)).Nodup; rw [upd_keys]; exact HND.out) HI3.out)
  obtain ⟨avb,ivb,pvb,g1,g2,g3,prsb,g6,g7,g8⟩ := HP3.out.cells
  obtain ⟨PAb,pcapb,rfl,q1b,q2b⟩ := g7.form
  unfold maxLen at q2b
  have hilb : i < prsb.length := by have := (List.getElem?_eq_some_iff.1 HI3.out).1; omega
  obtain ⟨⟨xn,xc,xs,xg⟩,hx⟩ : ∃ c,prsb[i]? = some c := ⟨_,List.getElem?_eq_getElem hilb⟩
  have hrp := g8 i mp { x with granted := x.granted + 1 } _ HI3.out hx
  obtain ⟨r1,r2,r3,r4,r5⟩ := hrp
  simp only at r1 r2 r3 r4 r5
  replace r1 := r1.symm
  subst r1 r2 r3
  obtain ⟨pbb,hpv,hpt,hps,hce⟩ := Row.elem (enc := RPr.cells) g7 (fun _ => rfl) (by decide) hx
  subst hpv
  obtain ⟨CAb,ccapb,rfl,z1b,z2b⟩ := r4.slice
  unfold maxLen at z2b
  have c3 : w3.cell? ⟨p,3,none⟩ = some (.slice (some ⟨pbb,0,none⟩) prsb.length pcapb) := cell_of g1 3
  have e1 : w3.cell? ⟨pbb,i * 4 + 1,none⟩ = some (.slice CAb x.claims.length ccapb) := hce 1 _ rfl
  have e2 : w3.cell? ⟨pbb,i * 4 + 2,none⟩ = some (.int .i64 x.state) := hce 2 _ rfl
  have e3 : w3.cell? ⟨pbb,i * 4 + 3,none⟩ = some (.int .i64 ((x.granted + 1 : Nat) : Int)) := hce 3 _ rfl
  have ez2 : w3.frozen? ⟨pbb,i * 4 + 2,none⟩ = false := Row.free' g7 (by rw [rprs_len]; omega)
  have ez3 : w3.frozen? ⟨pbb,i * 4 + 3,none⟩ = false := Row.free' g7 (by rw [rprs_len]; omega)
  have i2b : (i : Int) < (prsb.length : Int) := by omega
  have hppb : p ≠ pbb := ne_of_tag HP3.out.ptr hpt (by simp)
  have hbpb : b ≠ pbb := fun e => by have := HTB.out.1; rw [e,hpt] at this; exact hk0 this
  have hbqb : b1 ≠ pbb := fun e => by have := HTB.out.2; rw [e,hpt] at this; exact hk0 this
  have G1b := Lib.hid g1
  have G6b := Lib.hid g6
  have G7b := Lib.hid g7
  have G8b := Lib.hid g8
  have HXb := Lib.hid hx
  have R4b := Lib.hid r4
  have R5b := Lib.hid r5
  have HPBb := Lib.hid hpt
  clear g1 g2 g3 g6 g7 g8 hx r4 r5 hce hpt hps
  have i5 : (0 : Int) ≤ ((x.granted + 1 : Nat) : Int) := by omega
  cases hnx : x.claims[x.granted + 1]? with
  | some c =>
   obtain ⟨ci,cver⟩ := c
   have hlt := (List.getElem?_eq_some_iff.1 hnx).1
   have hlt2 : ((x.granted + 1 : Nat) : Int) < (x.claims.length : Int) := by omega
   obtain ⟨mm,hmm,hml⟩ := HCLS.out _ (List.mem_of_getElem? hnx)
   simp only at hmm
   subst hmm
   have hm : grantedM P ⟨mk,ms,md,mp,mi,mv⟩ = (setProp P mp { x with granted := x.granted + 1 }).send 1 (P.site (mm : Int)) mp (mm : Int) cver := by
    simp only [grantedM,HOX.out,hnx]
   have HMM := Lib.hid hm
   have HNX := Lib.hid hnx
   clear hm hnx
   go_wp2_with (
    go_at_call 75
    refine (rask_ok (i:=i) (n:=mp) (y := { x with granted := x.granted + 1 }) (m := mm) (cver := cver) (R,1,0) HP3.out hok3 HI3.out HNX.out hml).mono ?_
    rintro e w4 ⟨ov,tag4,rfl,hrow,hF4⟩
    obtain ⟨OA,ocap,rfl,o1,o2⟩ := hrow.form
    have hZ4 := hF4.heap HZ3.out (fun x => x)
    have r0 : w4.cell? ⟨b1,0,none⟩ = some (.slice none 0 0) := cell_of hZ4 0
    have r1 : w4.cell? ⟨b1,1,none⟩ = some (.slice none 0 0) := cell_of hZ4 1
    have rz0 := free_of hZ4 0
    have rz1 := free_of hZ4 1
    have HZ4 := Lib.hid hZ4
    have HF4 := Lib.hid hF4
    have HROW := Lib.hid hrow
    clear hZ4 hF4 hrow)
   obtain ⟨wz,hwz⟩ : ∃ yy,yy = (w4.setCell ⟨b1,0,none⟩ (.slice OA 1 ocap)).setCell ⟨b1,1,none⟩ (.slice none 0 0) := ⟨_,rfl⟩
   rw [← hwz]
   have hzz : wz.heap[b1]? = some (.cells #[.slice OA 1 ocap,.slice none 0 0] 41 (0,0)) := by
    rw [hwz,Go.Ng.heap_setCell_same (Go.Ng.heap_setCell_same HZ4.out 0 _) 1 _]
    rfl
   have rr0 : wz.cell? ⟨b1,0,none⟩ = some (.slice OA 1 ocap) := cell_of hzz 0
   have rr1 : wz.cell? ⟨b1,1,none⟩ = some (.slice none 0 0) := cell_of hzz 1
   refine bodyPost_ret (v:=.agg #[.slice OA 1 ocap,.slice none 0 0]) (by simp [results,Try.results83,go_sem,rr0,rr1]) rfl ?_
   clear rr0 rr1
   rw [HMM.out]
   have htb : (tag4 b1).1 = 0 := by rw [HF4.out.same b1 (lt_of_heap HZ3.out)]; exact HTB.out.2
   have hLz : Fr (fun t => t.1 = 0) tag4 tag4 w4 wz := by rw [hwz]; exact ((Fr.refl HF4.out.dom).sc b1 _ _ htb).sc b1 _ _ htb
   refine ⟨_,_,tag4,rfl,?_,?_,(((HP3.out.frF HF4.out).fr hLz (fun r i => hk0)).congr rfl rfl rfl rfl),by rw [hwz]; exact ((((HF3.out.trans HF4.out.up).scn (by omega) _ _).scn (by omega) _ _).mono (fun t h => .inl (by rw [h])))⟩
   ·show Row _ _ _ _ _ _ (P.out ++ [_]).length (posts (P.out ++ [_]))
    rw [HO.out]
    exact HROW.out.fr hLz hR
   ·show Row _ _ _ _ _ _ P.came.length (cames P.came)
    rw [HC.out]
    exact Row.nil _ _ _ _ _
  | none =>
   have hge : x.claims.length ≤ x.granted + 1 := by have := List.getElem?_eq_none_iff.1 hnx; omega
   have hge2 : ¬ ((x.granted + 1 : Nat) : Int) < (x.claims.length : Int) := by omega
   have hm : grantedM P ⟨mk,ms,md,mp,mi,mv⟩ = commitM ((setProp P mp { x with granted := x.granted + 1,state := 2 }).happen 1 mp (-1)) mp x.claims := by
    simp only [grantedM,HOX.out,hnx]
   have HMM := Lib.hid hm
   clear hm hnx
   go_upto_region 10 with fail
   clear c3 e1 e2 e3 ez2 ez3
   obtain ⟨w4,hW⟩ : ∃ yy,yy = w3.setCell ⟨pbb,i * 4 + 2,none⟩ (.int .i64 (2)) := ⟨_,rfl⟩
   rw [← hW]
   have hG : Fr (fun t => t = (k,4,0)) tag tag w3 w4 := by rw [hW]; exact Fr.setCell hok3 (a := ⟨pbb,_,none⟩) HPBb.out _
   have hrow : Row tag (k,4,0) 140 4 w4 (.slice (some ⟨pbb,0,none⟩) prsb.length pcapb) prsb.length ((prsb.set i ⟨mp,.slice CAb x.claims.length ccapb,2,((x.granted + 1 : Nat) : Int)⟩).flatMap RPr.cells) := by
    have := rprs_set2 prsb i _ (2) HXb.out
    rw [hW,← this]
    exact G7b.out.put_cell (by rw [rprs_len]; omega) _
   have hP : RPRep tag k w4 p (setProp (setProp P mp { x with granted := x.granted + 1 }) mp { x with granted := x.granted + 1,state := 2 }) := HP3.out.set_prop HI3.out HU3.out hG (fun t h => .inl h) G1b.out G6b.out G8b.out hrow (y' := { x with granted := x.granted + 1,state := 2 }) ⟨rfl,rfl,rfl,R4b.out.owned R5b.out hG (by simp),R5b.out.fr hG⟩
   have HP4 := Lib.hid hP
   have HG4 := Lib.hid hG
   have HF4 : Hid (Fr (fun t => t = (k,4,0)) tag tag w w4) := Lib.hid (HF3.out.trans hG)
   have HM4 := Lib.hid (hG.heap HM3.out (t0_ne HTB.out.1 hk0))
   have HZ4 := Lib.hid (hG.heap HZ3.out (t0_ne HTB.out.2 hk0))
   have hok4 := hG.dom
   clear hW hG hrow hP
   have HI4 : Hid ((setProp (setProp P mp { x with granted := x.granted + 1 }) mp { x with granted := x.granted + 1,state := 2 }).props[i]? = some (mp,{ x with granted := x.granted + 1,state := 2 })) := Lib.hid (upd_get HI3.out)
   have HLE : Hid (x.claims.length ≤ ({ x with granted := x.granted + 1,state := 2 } : PropM).claims.length) := Lib.hid (Nat.le_refl _)
   have HCL : Hid (({ x with granted := x.granted + 1,state := 2 } : PropM).claims.length ≤ 1000) := Lib.hid (by show x.claims.length ≤ 1000; omega)
   have HCLS4 : Hid (∀ c ∈ ({ x with granted := x.granted + 1,state := 2 } : PropM).claims,∃ m : Nat,c.item = (m : Int) ∧ m < (setProp (setProp P mp { x with granted := x.granted + 1 }) mp { x with granted := x.granted + 1,state := 2 }).sites.length) := Lib.hid HCLS.out
   have HNM : Hid (tag b ≠ (R,1,0)) := Lib.hid (t0_ne HTB.out.1 hR)
   have HNZ : Hid (tag b1 ≠ (R,1,0)) := Lib.hid (t0_ne HTB.out.2 hR)
   have m3 : w4.cell? ⟨b,3,none⟩ = some (.int .i64 mp) := cell_of HM4.out 3
   have HG0 : Hid (Fr (fun t => t = (R,1,0)) tag tag w4 w4.drew) := Lib.hid (Fr.drew (And.intro HP4.out hok4).2)
   have HPX0 : Hid (RPRep tag k w4.drew p (setProp (setProp P mp { x with granted := x.granted + 1 }) mp { x with granted := x.granted + 1,state := 2 })) := Lib.hid ((And.intro HP4.out hok4).1.frF (Fr.drew (And.intro HP4.out hok4).2))
   refine start_ (n:=10) (S:=fun w' => w'.cell? ⟨b,3,none⟩ = some (.int .i64 mp)) (ds := [9]) #[f_,f_,f_,f_,f_,f_,f_,f_,f_,f_] (by kernel_rfl) rfl rfl (m3) (fun hHeld => ?_)
   generalize w4.drew = W0 at HG0 HPX0 hHeld ⊢
   refine pure_ (i:=0) (N:=some 61) (v:=?_) (a':=?_) #[t_,f_,f_,f_,f_,f_,f_,f_,f_,f_] rfl rfl (by kernel_rfl) (fun _ _ _ h => h) (Or.inl ⟨by rfl,?_⟩) ?_ ?_
   rotate_left;intro w';go_simp;with_reducible rfl;rotate_left;simp only [Act.put,sA_,sB_,sC_,i64_w,i32_w];rfl
   refine pure_ (i:=1) (N:=some 62) (v:=?_) (a':=?_) #[t_,t_,f_,f_,f_,f_,f_,f_,f_,f_] rfl rfl (by kernel_rfl) (fun _ _ _ h => h) (Or.inl ⟨by rfl,?_⟩) ?_ ?_
   rotate_left;intro w';go_simp;with_reducible rfl;rotate_left;simp only [Act.put,sA_,sB_,sC_,i64_w,i32_w];rfl
   refine pure_ (i:=2) (N:=some 63) (v:=?_) (a':=?_) #[t_,t_,t_,f_,f_,f_,f_,f_,f_,f_] rfl rfl (by kernel_rfl) (fun _ _ _ h => h) (Or.inl ⟨by rfl,?_⟩) ?_ ?_
   rotate_left;intro w';go_simp;with_reducible rfl;rotate_left;simp only [Act.put,sA_,sB_,sC_,i64_w,i32_w];rfl
   refine pure_ (i:=4) (N:=some 65) (v:=?_) (a':=?_) #[t_,t_,t_,f_,t_,f_,f_,f_,f_,f_] rfl rfl (by kernel_rfl) (fun _ _ _ h => h) (Or.inl ⟨by rfl,?_⟩) ?_ ?_
   rotate_left;intro w';go_simp;with_reducible rfl;rotate_left;simp only [Act.put,sA_,sB_,sC_,i64_w,i32_w];rfl
   refine take_ (i:=5) (N:=some 66) (v:=?_) (a':=?_) #[t_,t_,t_,f_,t_,t_,f_,f_,f_,f_] rfl rfl (by kernel_rfl) (fun _ _ _ h => h) (Or.inl ⟨by rfl,?_⟩) hHeld ?_ ?_
   rotate_left
   ·intro w' s0
    go_simp
    with_reducible rfl
   rotate_left
   ·simp only [Act.put,sA_,sB_,sC_,i64_w,i32_w];rfl
   refine pure_ (i:=6) (N:=some 67) (v:=?_) (a':=?_) #[t_,t_,t_,f_,t_,t_,t_,f_,f_,f_] rfl rfl (by kernel_rfl) (fun _ _ _ h => h) (Or.inl ⟨by rfl,?_⟩) ?_ ?_
   rotate_left;intro w';go_simp;with_reducible rfl;rotate_left;simp only [Act.put,sA_,sB_,sC_,i64_w,i32_w];rfl
   refine join_ (σ := Value × Value) 2 #[t_,t_,t_,t_,t_,t_,t_,t_,f_,f_] (fun s => [(64,s.1),(68,s.2)]) (MidC R tag w4 (x.claims.length) (eachL (setProp (setProp P mp { x with granted := x.granted + 1 }) mp { x with granted := x.granted + 1,state := 2 }) 4 mp (x.claims.take x.claims.length)) ⟨1,mp,-1⟩) ?_ ?_
   rotate_left
   ·intro hCont
    refine two_ (i:=3) (j:=7) (Ni := some 64) (Nj := some 68) #[t_,t_,t_,t_,t_,t_,t_,f_,f_,f_] #[t_,t_,t_,f_,t_,t_,t_,t_,f_,f_] rfl rfl rfl rfl (by kernel_rfl) (by decide) (by decide) (fun K hK => ?_) (fun K hK => ?_)
    ·skip
     refine goes_ Try.func78 (by kernel_rfl) rfl #[.pointer (some ⟨p,0,none⟩),.int .i64 (i : Int),.int .i64 4,.int .i64 (x.claims.length : Int)] (by rfl) rfl rfl (by simp only [List.map_toArray,List.map_cons,List.map_nil]; rfl) ?_
     with_reducible refine (reach_ok (i:=i) (nn := x.claims.length) (n:=mp) (y := { x with granted := x.granted + 1,state := 2 }) (P := setProp (setProp P mp { x with granted := x.granted + 1 }) mp { x with granted := x.granted + 1,state := 2 }) 4 (R,1,0) hR HRk.out HPX0.out HG0.out.dom HI4.out HLE.out HCLS4.out HCL.out).mono ?_
     rintro e W1 ⟨ov,T1,rfl,hrow,hs⟩
     refine ⟨_,rfl,?_⟩
     obtain ⟨OA,ocap,rfl,o1,o2⟩ := hrow.form
     have HG1 := Lib.hid (HG0.out.trans hs)
     have HV1 := Lib.hid hrow
     clear hs hrow
     refine hK.out _ _ (HG1.out.cell m3 HNM.out) (fun hHeld => ?_)
     clear hK K
     refine norm_ (a':=?_) ?_ ?_
     rotate_left
     ·show Act.put _ (some 64) _ = _
      simp only [Act.put,sA_,sB_,sC_,i64_w,i32_w]
      rfl
     refine one_ (i:=7) (N:=some 68) #[t_,t_,t_,t_,t_,t_,t_,t_,f_,f_] rfl rfl (by kernel_rfl) (by decide) (fun K hK => ?_)
     refine value_ (w1:=?_) (v:=?_) (by rfl) rfl ?_ ?_
     rotate_left 2
     ·go_simp
      constructor
      ·rfl
      ·rfl
     obtain ⟨W2,hW⟩ : ∃ yy,yy = World.alloc W1 (.cells #[.int .i64 1,.int .i64 mp,.int .i64 (-1)] 106) := ⟨_,rfl⟩
     rw [← hW]
     obtain ⟨T2,hT⟩ : ∃ yy,yy = give T1 (World.heap W1).size (R,2,0) := ⟨_,rfl⟩
     have hs : Fr (fun _ => False) T1 T2 W1 W2 := by rw [hW,hT]; exact Fr.give_alloc HG1.out.dom _ _
     obtain ⟨cb,hcb⟩ : ∃ yy,yy = (World.heap W1).size := ⟨_,rfl⟩
     have HC2 : Hid (Row T2 (R,2,0) 106 3 W2 (.slice (some ⟨cb,0,none⟩) 1 1) 1 (cames [⟨1,mp,-1⟩])) := Lib.hid (by rw [hW,hT,hcb]; exact Row.came1 HG1.out.dom (R,2,0) ⟨1,mp,-1⟩)
     rw [← hcb]
     have HG2 := Lib.hid (HG1.out.trans hs.up)
     have HV2 := Lib.hid (HV1.out.fr hs (fun x => x))
     clear hW hT hcb hs
     refine hK.out _ _ (HG2.out.cell m3 HNM.out) (fun hHeld => ?_)
     clear hK K
     refine norm_ (a':=?_) ?_ ?_
     rotate_left
     ·show Act.put _ (some 68) _ = _
      simp only [Act.put,sA_,sB_,sC_,i64_w,i32_w]
      rfl
     exact norm_ (by simp only [putAll,Act.put,sA_,sB_,sC_]) (hCont (.slice OA (x.claims.length) ocap,.slice (some ⟨cb,0,none⟩) 1 1) _ ⟨T2,OA,ocap,cb,rfl,rfl,HV2.out,HC2.out,HG2.out⟩)
    ·skip
     refine value_ (w1:=?_) (v:=?_) (by rfl) rfl ?_ ?_
     rotate_left 2
     ·go_simp
      constructor
      ·rfl
      ·rfl
     obtain ⟨W1,hW⟩ : ∃ yy,yy = World.alloc W0 (.cells #[.int .i64 1,.int .i64 mp,.int .i64 (-1)] 106) := ⟨_,rfl⟩
     rw [← hW]
     obtain ⟨T1,hT⟩ : ∃ yy,yy = give tag (World.heap W0).size (R,2,0) := ⟨_,rfl⟩
     have hs : Fr (fun _ => False) tag T1 W0 W1 := by rw [hW,hT]; exact Fr.give_alloc HG0.out.dom _ _
     obtain ⟨cb,hcb⟩ : ∃ yy,yy = (World.heap W0).size := ⟨_,rfl⟩
     have HC1 : Hid (Row T1 (R,2,0) 106 3 W1 (.slice (some ⟨cb,0,none⟩) 1 1) 1 (cames [⟨1,mp,-1⟩])) := Lib.hid (by rw [hW,hT,hcb]; exact Row.came1 HG0.out.dom (R,2,0) ⟨1,mp,-1⟩)
     rw [← hcb]
     have HG1 := Lib.hid (HG0.out.trans hs.up)
     have HPX1 := Lib.hid (HPX0.out.frF hs)
     clear hW hT hcb hs
     refine hK.out _ _ (HG1.out.cell m3 HNM.out) (fun hHeld => ?_)
     clear hK K
     refine norm_ (a':=?_) ?_ ?_
     rotate_left
     ·show Act.put _ (some 68) _ = _
      simp only [Act.put,sA_,sB_,sC_,i64_w,i32_w]
      rfl
     refine one_ (i:=3) (N:=some 64) #[t_,t_,t_,t_,t_,t_,t_,t_,f_,f_] rfl rfl (by kernel_rfl) (by decide) (fun K hK => ?_)
     refine goes_ Try.func78 (by kernel_rfl) rfl #[.pointer (some ⟨p,0,none⟩),.int .i64 (i : Int),.int .i64 4,.int .i64 (x.claims.length : Int)] (by rfl) rfl rfl (by simp only [List.map_toArray,List.map_cons,List.map_nil]; rfl) ?_
     with_reducible refine (reach_ok (i:=i) (nn := x.claims.length) (n:=mp) (y := { x with granted := x.granted + 1,state := 2 }) (P := setProp (setProp P mp { x with granted := x.granted + 1 }) mp { x with granted := x.granted + 1,state := 2 }) 4 (R,1,0) hR HRk.out HPX1.out HG1.out.dom HI4.out HLE.out HCLS4.out HCL.out).mono ?_
     rintro e W2 ⟨ov,T2,rfl,hrow,hs⟩
     refine ⟨_,rfl,?_⟩
     obtain ⟨OA,ocap,rfl,o1,o2⟩ := hrow.form
     have HG2 := Lib.hid (HG1.out.trans hs)
     have HV2 := Lib.hid hrow
     have HC2 := Lib.hid (HC1.out.fr hs (by simp))
     clear hs hrow
     refine hK.out _ _ (HG2.out.cell m3 HNM.out) (fun hHeld => ?_)
     clear hK K
     refine norm_ (a':=?_) ?_ ?_
     rotate_left
     ·show Act.put _ (some 64) _ = _
      simp only [Act.put,sA_,sB_,sC_,i64_w,i32_w]
      rfl
     exact norm_ (by simp only [putAll,Act.put,sA_,sB_,sC_]) (hCont (.slice OA (x.claims.length) ocap,.slice (some ⟨cb,0,none⟩) 1 1) _ ⟨T2,OA,ocap,cb,rfl,rfl,HV2.out,HC2.out,HG2.out⟩)
   rintro ⟨v1,v2⟩ wm ⟨Tm,Am,capm,cbm,h1,h2,hrv,hrc,hg⟩
   simp only at h1 h2
   subst h1 h2
   have HRV := Lib.hid hrv
   have HRC := Lib.hid hrc
   have HG := Lib.hid hg
   have HZm := Lib.hid (hg.heap HZ4.out HNZ.out)
   have r0 : wm.cell? ⟨b1,0,none⟩ = some (.slice none 0 0) := cell_of HZm.out 0
   have r1 : wm.cell? ⟨b1,1,none⟩ = some (.slice none 0 0) := cell_of HZm.out 1
   have rz0 := free_of HZm.out 0
   have rz1 := free_of HZm.out 1
   clear hrv hrc hg
   have hHeld := HG.out.cell m3 HNM.out
   refine norm_ (a':=?_) ?_ ?_
   rotate_left
   ·simp only [putAll,Act.put,sA_,sB_,sC_]
    rfl
   refine pure_ (i:=8) (N:=some 69) (v:=?_) (a':=?_) #[t_,t_,t_,t_,t_,t_,t_,t_,t_,f_] rfl rfl (by kernel_rfl) (fun _ _ _ h => h) (Or.inl ⟨by rfl,?_⟩) ?_ ?_
   rotate_left;intro w';go_simp;with_reducible rfl;rotate_left;simp only [Act.put,sA_,sB_,sC_,i64_w,i32_w];rfl
   refine last_ (i:=9) (N:=none) #[t_,t_,t_,t_,t_,t_,t_,t_,t_,t_] rfl rfl (by kernel_rfl) (by decide) (fun K hK => ?_)
   refine skip_ (w1:=?_) (by rfl) rfl ?_ ?_
   rotate_left
   ·go_simp
    rfl
   refine hK.out _ _ ?_
   clear hK K
   refine done_ (by kernel_rfl) ?_
   clear hHeld
   go_wp2_with fail
   obtain ⟨wz,hwz⟩ : ∃ yy,yy = (wm.setCell ⟨b1,0,none⟩ (.slice Am x.claims.length capm)).setCell ⟨b1,1,none⟩ (.slice (some ⟨cbm,0,none⟩) 1 1) := ⟨_,rfl⟩
   rw [← hwz]
   have hzz : wz.heap[b1]? = some (.cells #[.slice Am x.claims.length capm,.slice (some ⟨cbm,0,none⟩) 1 1] 41 (0,0)) := by
    rw [hwz,Go.Ng.heap_setCell_same (Go.Ng.heap_setCell_same HZm.out 0 _) 1 _]
    rfl
   have rr0 : wz.cell? ⟨b1,0,none⟩ = some (.slice Am x.claims.length capm) := cell_of hzz 0
   have rr1 : wz.cell? ⟨b1,1,none⟩ = some (.slice (some ⟨cbm,0,none⟩) 1 1) := cell_of hzz 1
   refine bodyPost_ret (v:=.agg #[.slice Am x.claims.length capm,.slice (some ⟨cbm,0,none⟩) 1 1]) (by simp [results,Try.results83,go_sem,rr0,rr1]) rfl ?_
   clear rr0 rr1
   rw [HMM.out,commitM_eq]
   have htz : (Tm b1).1 = 0 := by rw [HG.out.same b1 (lt_of_heap HZ4.out)]; exact HTB.out.2
   have hLz : Fr (fun t => t.1 = 0) Tm Tm wm wz := by rw [hwz]; exact ((Fr.refl HG.out.dom).sc b1 _ _ htz).sc b1 _ _ htz
   refine ⟨_,_,Tm,rfl,?_,?_,(((HP4.out.fr HG.out (fun r i e => by injection e with e _; exact HRk.out e.symm)).fr hLz (fun r i => hk0)).congr rfl rfl rfl (by show upd P.props mp _ = upd (upd P.props mp _) mp _; rw [upd_upd])),by rw [hwz]; exact (((((HF4.out.mono (S' := fun t => t.1 = k ∨ t.1 = R) (fun t h => .inl (by rw [h]))).trans (HG.out.mono (fun t h => .inr (by rw [h])))).scn (by omega) _ _).scn (by omega) _ _))⟩
   ·show Row _ _ _ _ _ _ (P.out ++ _).length (posts (P.out ++ _))
    rw [HO.out]
    have := HRV.out.fr hLz hR
    have e2 : eachL (setProp (setProp P mp { x with granted := x.granted + 1 }) mp { x with granted := x.granted + 1,state := 2 }) 4 mp (x.claims.take x.claims.length) = x.claims.map (fun c => ⟨4,P.no,P.site c.item,mp,c.item,0⟩) := by rw [List.take_length]; rfl
    rw [e2] at this
    rw [List.nil_append,List.length_map]
    exact this
   ·show Row _ _ _ _ _ _ (P.came ++ [_]).length (cames (P.came ++ [_]))
    rw [HC.out]
    exact HRC.out.fr hLz hR
theorem rrefused_ok {x : PropM} (m : Post) (h : RPRep tag k w p P) (hok : TagOk tag w) (hR : R ≠ 0) (hRk : R ≠ k) (hW : WF P) (hnd : (P.props.map (·.1)).Nodup) (hf : find P.props m.prop = some x) (hpr : 0 ≤ m.prop)
  (ho : P.out = []) (hc : P.came = []) :
  Calls Try.prog 84 #[.pointer (some ⟨p,0,none⟩),Post.val m] w (ROut R k p tag w (refusedM P m)) := by
 have hop := openM_asks hf
 obtain ⟨mk,ms,md,mp,mi,mv⟩ := m
 simp only at hf hpr hop
 obtain ⟨i,hi,hix⟩ := find_idx hf
 have hxm : (mp,x) ∈ P.props := List.mem_of_getElem? hi
 have hgt := hW.opens _ _ hxm
 have hgle := hW.le _ _ hxm
 have hfew := hW.few _ _ hxm
 have hcls := hW.claims _ _ hxm
 have HU := Lib.hid (nodup_idx hnd hi)
 have HND := Lib.hid hnd
 have HI := Lib.hid hi
 have HIX := Lib.hid hix
 have HGT := Lib.hid hgt
 have HCLS := Lib.hid hcls
 have H := Lib.hid h
 have HO := Lib.hid ho
 have HC := Lib.hid hc
 have HOP := Lib.hid hop
 have hk0 := h.k0
 have HRk := Lib.hid hRk
 clear h hi hix hgt hcls hf hxm hnd hop ho hc hW
 unfold Post.val
 go_enter Try.func84,Try.ntmps84
 go_upto_region 1 with fail
 obtain ⟨w1,hw1⟩ : ∃ x,x = (w.alloc (.cells #[.int .i64 mk,.int .i64 ms,.int .i64 md,.int .i64 mp,.int .i64 mi,.int .i64 mv] 49)).alloc (.cells #[.slice none 0 0,.slice none 0 0] 41) := ⟨_,rfl⟩
 rw [← hw1]
 obtain ⟨b,hb⟩ : ∃ x,x = w.heap.size := ⟨_,rfl⟩
 obtain ⟨b1,hb1⟩ : ∃ x,x = w.heap.size + 1 := ⟨_,rfl⟩
 rw [← hb1,← hb]
 have hwb : w.heap.size ≤ b := by omega
 have hbb : b < b1 := by omega
 have HF1 : Hid (Fr (fun _ => False) tag tag w w1) := Lib.hid (by rw [hw1]; exact ((Fr.refl hok).al _).al _)
 have HM1 : Hid (w1.heap[b]? = some (.cells #[.int .i64 mk,.int .i64 ms,.int .i64 md,.int .i64 mp,.int .i64 mi,.int .i64 mv] 49 (0,0))) := Lib.hid (by rw [hw1,hb]; exact heap_alloc_lt (heap_alloc_at _ _) _)
 have HZ1 : Hid (w1.heap[b1]? = some (.cells #[.slice none 0 0,.slice none 0 0] 41 (0,0))) := Lib.hid (by rw [hw1,hb1]; exact heap_alloc_at1 _ _ _)
 have HTB : Hid ((tag b).1 = 0 ∧ (tag b1).1 = 0) := Lib.hid ⟨tag_new hok (by omega),tag_new hok (by omega)⟩
 have HP1 := Lib.hid (H.out.frF HF1.out)
 have hok1 := HF1.out.dom
 clear hw1 hb hb1
 have m3 : w1.cell? ⟨b,3,none⟩ = some (.int .i64 mp) := cell_of HM1.out 3
 have m4 : w1.cell? ⟨b,4,none⟩ = some (.int .i64 mi) := cell_of HM1.out 4
 obtain ⟨r,hr⟩ : ∃ r,asksB x mi = r := ⟨_,rfl⟩
 have HRR := Lib.hid hr
 clear hr
 go_upto_region 3 with (first
  | (go_at_call 74; refine (rfind_val mp i HIX.out HP1.out).mono ?_; rintro e w5 ⟨rfl,h5⟩; have h5 := h5.symm; subst h5)
  | (go_at_call 118; refine (rasks_val (i:=i) (n:=mp) (item := mi) (y := x) r HRR.out HP1.out hok1 HI.out HGT.out).mono ?_; rintro e w2 ⟨rfl,hF2⟩; have HF2 := Lib.hid (HF1.out.trans hF2); have HM2 := Lib.hid (hF2.heap HM1.out (fun x => x)); have HZ2 := Lib.hid (hF2.heap HZ1.out (fun x => x)); have HP2 := Lib.hid (HP1.out.frF hF2); have hok2 := hF2.dom; clear hF2))
 clear m3 m4
 cases r
 ·have hm : refusedM P ⟨mk,ms,md,mp,mi,mv⟩ = P := by
   have h1 : openM P ⟨mk,ms,md,mp,mi,mv⟩ = none := by rw [HOP.out,if_neg (by rw [HRR.out]; decide)]
   simp only [refusedM,h1]
  have HMM := Lib.hid hm
  clear hm
  have r0 : w2.cell? ⟨b1,0,none⟩ = some (.slice none 0 0) := cell_of HZ2.out 0
  have r1 : w2.cell? ⟨b1,1,none⟩ = some (.slice none 0 0) := cell_of HZ2.out 1
  have rz0 := free_of HZ2.out 0
  have rz1 := free_of HZ2.out 1
  go_wp2_with fail
  obtain ⟨wz,hwz⟩ : ∃ yy,yy = (w2.setCell ⟨b1,0,none⟩ (.slice none 0 0)).setCell ⟨b1,1,none⟩ (.slice none 0 0) := ⟨_,rfl⟩
  rw [← hwz]
  have hzz : wz.heap[b1]? = some (.cells #[.slice none 0 0,.slice none 0 0] 41 (0,0)) := by
   rw [hwz,Go.Ng.heap_setCell_same (Go.Ng.heap_setCell_same HZ2.out 0 _) 1 _]
   rfl
  have rr0 : wz.cell? ⟨b1,0,none⟩ = some (.slice none 0 0) := cell_of hzz 0
  have rr1 : wz.cell? ⟨b1,1,none⟩ = some (.slice none 0 0) := cell_of hzz 1
  refine bodyPost_ret (v:=.agg #[.slice none 0 0,.slice none 0 0]) (by simp [results,Try.results84,go_sem,rr0,rr1]) rfl ?_
  clear rr0 rr1
  rw [HMM.out]
  refine ⟨_,_,tag,rfl,by rw [HO.out]; exact Row.nil _ _ _ _ _,by rw [HC.out]; exact Row.nil _ _ _ _ _,?_,by rw [hwz]; exact ((HF2.out.up.scn (by omega) _ _).scn (by omega) _ _)⟩
  rw [hwz]
  exact HP2.out.fr (S:=fun t => t.1 = 0) (((Fr.refl hok2).sc b1 _ _ HTB.out.2).sc b1 _ _ HTB.out.2) (fun r i => hk0)
 ·have hopx : openM P ⟨mk,ms,md,mp,mi,mv⟩ = some x := by rw [HOP.out,if_pos HRR.out]
  have hst : x.state = 1 := by have := HRR.out; simp only [asksB,Bool.and_eq_true,beq_iff_eq] at this; exact this.1
  have HOX := Lib.hid hopx
  have hglt := HGT.out hst
  have HST := Lib.hid hst
  clear hopx hst
  have i1 : (0 : Int) ≤ (i : Int) := by omega
  have i3 : (0 : Int) ≤ (x.granted : Int) := by omega
  have i4 : (x.granted : Int) ≤ 64 := by omega
  have hm : refusedM P ⟨mk,ms,md,mp,mi,mv⟩ = freeM ((setProp P mp { x with state := 3 }).happen 2 mp (-1)) mp (x.claims.take x.granted) := by
   simp only [refusedM,HOX.out]
  have HMM := Lib.hid hm
  clear hm
  obtain ⟨ava,iva,pva,g1,g2,g3,prsa,g6,g7,g8⟩ := HP2.out.cells
  obtain ⟨PAa,pcapa,rfl,q1a,q2a⟩ := g7.form
  unfold maxLen at q2a
  have hila : i < prsa.length := by have := (List.getElem?_eq_some_iff.1 HI.out).1; omega
  obtain ⟨⟨xn,xc,xs,xg⟩,hx⟩ : ∃ c,prsa[i]? = some c := ⟨_,List.getElem?_eq_getElem hila⟩
  have hrp := g8 i mp x _ HI.out hx
  obtain ⟨r1,r2,r3,r4,r5⟩ := hrp
  simp only at r1 r2 r3 r4 r5
  replace r1 := r1.symm
  subst r1 r2 r3
  obtain ⟨pba,hpv,hpt,hps,hce⟩ := Row.elem (enc := RPr.cells) g7 (fun _ => rfl) (by decide) hx
  subst hpv
  obtain ⟨CAa,ccapa,rfl,z1a,z2a⟩ := r4.slice
  unfold maxLen at z2a
  have c3 : w2.cell? ⟨p,3,none⟩ = some (.slice (some ⟨pba,0,none⟩) prsa.length pcapa) := cell_of g1 3
  have e1 : w2.cell? ⟨pba,i * 4 + 1,none⟩ = some (.slice CAa x.claims.length ccapa) := hce 1 _ rfl
  have e2 : w2.cell? ⟨pba,i * 4 + 2,none⟩ = some (.int .i64 x.state) := hce 2 _ rfl
  have e3 : w2.cell? ⟨pba,i * 4 + 3,none⟩ = some (.int .i64 (x.granted : Int)) := hce 3 _ rfl
  have ez2 : w2.frozen? ⟨pba,i * 4 + 2,none⟩ = false := Row.free' g7 (by rw [rprs_len]; omega)
  have ez3 : w2.frozen? ⟨pba,i * 4 + 3,none⟩ = false := Row.free' g7 (by rw [rprs_len]; omega)
  have i2a : (i : Int) < (prsa.length : Int) := by omega
  have hppa : p ≠ pba := ne_of_tag HP2.out.ptr hpt (by simp)
  have hbpa : b ≠ pba := fun e => by have := HTB.out.1; rw [e,hpt] at this; exact hk0 this
  have hbqa : b1 ≠ pba := fun e => by have := HTB.out.2; rw [e,hpt] at this; exact hk0 this
  have G1a := Lib.hid g1
  have G6a := Lib.hid g6
  have G7a := Lib.hid g7
  have G8a := Lib.hid g8
  have HXa := Lib.hid hx
  have R4a := Lib.hid r4
  have R5a := Lib.hid r5
  have HPBa := Lib.hid hpt
  clear g1 g2 g3 g6 g7 g8 hx r4 r5 hce hpt hps
  go_upto_region 6 with fail
  clear c3 e1 e2 e3 ez2 ez3
  obtain ⟨w3,hW⟩ : ∃ yy,yy = w2.setCell ⟨pba,i * 4 + 2,none⟩ (.int .i64 (3)) := ⟨_,rfl⟩
  rw [← hW]
  have hG : Fr (fun t => t = (k,4,0)) tag tag w2 w3 := by rw [hW]; exact Fr.setCell hok2 (a := ⟨pba,_,none⟩) HPBa.out _
  have hrow : Row tag (k,4,0) 140 4 w3 (.slice (some ⟨pba,0,none⟩) prsa.length pcapa) prsa.length ((prsa.set i ⟨mp,.slice CAa x.claims.length ccapa,3,(x.granted : Int)⟩).flatMap RPr.cells) := by
   have := rprs_set2 prsa i _ (3) HXa.out
   rw [hW,← this]
   exact G7a.out.put_cell (by rw [rprs_len]; omega) _
  have hP : RPRep tag k w3 p (setProp P mp { x with state := 3 }) := HP2.out.set_prop HI.out HU.out hG (fun t h => .inl h) G1a.out G6a.out G8a.out hrow (y' := { x with state := 3 }) ⟨rfl,rfl,rfl,R4a.out.owned R5a.out hG (by simp),R5a.out.fr hG⟩
  have HP3 := Lib.hid hP
  have HG3 := Lib.hid hG
  have HF3 : Hid (Fr (fun t => t = (k,4,0)) tag tag w w3) := Lib.hid ((HF2.out.up).trans hG)
  have HM3 := Lib.hid (hG.heap HM2.out (t0_ne HTB.out.1 hk0))
  have HZ3 := Lib.hid (hG.heap HZ2.out (t0_ne HTB.out.2 hk0))
  have hok3 := hG.dom
  clear hW hG hrow hP
  have HI4 : Hid ((setProp P mp { x with state := 3 }).props[i]? = some (mp,{ x with state := 3 })) := Lib.hid (upd_get HI.out)
  obtain ⟨avb,ivb,pvb,g1,g2,g3,prsb,g6,g7,g8⟩ := HP3.out.cells
  obtain ⟨PAb,pcapb,rfl,q1b,q2b⟩ := g7.form
  unfold maxLen at q2b
  have hilb : i < prsb.length := by have := (List.getElem?_eq_some_iff.1 HI4.out).1; omega
  obtain ⟨⟨xn,xc,xs,xg⟩,hx⟩ : ∃ c,prsb[i]? = some c := ⟨_,List.getElem?_eq_getElem hilb⟩
  have hrp := g8 i mp { x with state := 3 } _ HI4.out hx
  obtain ⟨r1,r2,r3,r4,r5⟩ := hrp
  simp only at r1 r2 r3 r4 r5
  replace r1 := r1.symm
  subst r1 r2 r3
  obtain ⟨pbb,hpv,hpt,hps,hce⟩ := Row.elem (enc := RPr.cells) g7 (fun _ => rfl) (by decide) hx
  subst hpv
  obtain ⟨CAb,ccapb,rfl,z1b,z2b⟩ := r4.slice
  unfold maxLen at z2b
  have c3 : w3.cell? ⟨p,3,none⟩ = some (.slice (some ⟨pbb,0,none⟩) prsb.length pcapb) := cell_of g1 3
  have e1 : w3.cell? ⟨pbb,i * 4 + 1,none⟩ = some (.slice CAb x.claims.length ccapb) := hce 1 _ rfl
  have e2 : w3.cell? ⟨pbb,i * 4 + 2,none⟩ = some (.int .i64 3) := hce 2 _ rfl
  have e3 : w3.cell? ⟨pbb,i * 4 + 3,none⟩ = some (.int .i64 (x.granted : Int)) := hce 3 _ rfl
  have ez2 : w3.frozen? ⟨pbb,i * 4 + 2,none⟩ = false := Row.free' g7 (by rw [rprs_len]; omega)
  have ez3 : w3.frozen? ⟨pbb,i * 4 + 3,none⟩ = false := Row.free' g7 (by rw [rprs_len]; omega)
  have i2b : (i : Int) < (prsb.length : Int) := by omega
  have hppb : p ≠ pbb := ne_of_tag HP3.out.ptr hpt (by simp)
  have hbpb : b ≠ pbb := fun e => by have := HTB.out.1; rw [e,hpt] at this; exact hk0 this
  have hbqb : b1 ≠ pbb := fun e => by have := HTB.out.2; rw [e,hpt] at this; exact hk0 this
  have G1b := Lib.hid g1
  have G6b := Lib.hid g6
  have G7b := Lib.hid g7
  have G8b := Lib.hid g8
  have HXb := Lib.hid hx
  have R4b := Lib.hid r4
  have R5b := Lib.hid r5
  have HPBb := Lib.hid hpt
  clear g1 g2 g3 g6 g7 g8 hx r4 r5 hce hpt hps
  have HLE : Hid (x.granted ≤ ({ x with state := 3 } : PropM).claims.length) := Lib.hid hgle
  have HCL : Hid (({ x with state := 3 } : PropM).claims.length ≤ 1000) := Lib.hid (by show x.claims.length ≤ 1000; omega)
  have HCLS4 : Hid (∀ c ∈ ({ x with state := 3 } : PropM).claims,∃ m : Nat,c.item = (m : Int) ∧ m < (setProp P mp { x with state := 3 }).sites.length) := Lib.hid HCLS.out
  have HNM : Hid (tag b ≠ (R,1,0)) := Lib.hid (t0_ne HTB.out.1 hR)
  have HNZ : Hid (tag b1 ≠ (R,1,0)) := Lib.hid (t0_ne HTB.out.2 hR)
  have HNP : Hid (tag p ≠ (R,1,0)) := Lib.hid (by rw [HP3.out.ptr]; intro e; injection e with e _; exact HRk.out e.symm)
  have HNB : Hid (tag pbb ≠ (R,1,0)) := Lib.hid (by rw [HPBb.out]; intro e; injection e with e _; exact HRk.out e.symm)
  have m3 : w3.cell? ⟨b,3,none⟩ = some (.int .i64 mp) := cell_of HM3.out 3
  clear e1 e2 ez2 ez3
  have HG0 : Hid (Fr (fun t => t = (R,1,0)) tag tag w3 w3.drew) := Lib.hid (Fr.drew (And.intro HP3.out hok3).2)
  have HPX0 : Hid (RPRep tag k w3.drew p (setProp P mp { x with state := 3 })) := Lib.hid ((And.intro HP3.out hok3).1.frF (Fr.drew (And.intro HP3.out hok3).2))
  refine start_ (n:=17) (S:=fun w' => w'.cell? ⟨p,3,none⟩ = some (.slice (some ⟨pbb,0,none⟩) prsb.length pcapb) ∧ w'.cell? ⟨pbb,i * 4 + 3,none⟩ = some (.int .i64 (x.granted : Int)) ∧ w'.cell? ⟨b,3,none⟩ = some (.int .i64 mp)) (ds := [16]) #[f_,f_,f_,f_,f_,f_,f_,f_,f_,f_,f_,f_,f_,f_,f_,f_,f_] (by kernel_rfl) rfl rfl ⟨c3,e3,m3⟩ (fun hHeld => ?_)
  generalize w3.drew = W0 at HG0 HPX0 hHeld ⊢
  refine pure_ (i:=0) (N:=some 26) (v:=?_) (a':=?_) #[t_,f_,f_,f_,f_,f_,f_,f_,f_,f_,f_,f_,f_,f_,f_,f_,f_] rfl rfl (by kernel_rfl) (fun _ _ _ h => h) (Or.inl ⟨by rfl,?_⟩) ?_ ?_
  rotate_left;intro w';go_simp;with_reducible rfl;rotate_left;simp only [Act.put,sA_,sB_,sC_,i64_w,i32_w];rfl
  refine pure_ (i:=1) (N:=some 27) (v:=?_) (a':=?_) #[t_,t_,f_,f_,f_,f_,f_,f_,f_,f_,f_,f_,f_,f_,f_,f_,f_] rfl rfl (by kernel_rfl) (fun _ _ _ h => h) (Or.inl ⟨by rfl,?_⟩) ?_ ?_
  rotate_left;intro w';go_simp;with_reducible rfl;rotate_left;simp only [Act.put,sA_,sB_,sC_,i64_w,i32_w];rfl
  refine pure_ (i:=2) (N:=some 28) (v:=?_) (a':=?_) #[t_,t_,t_,f_,f_,f_,f_,f_,f_,f_,f_,f_,f_,f_,f_,f_,f_] rfl rfl (by kernel_rfl) (fun _ _ _ h => h) (Or.inl ⟨by rfl,?_⟩) ?_ ?_
  rotate_left;intro w';go_simp;with_reducible rfl;rotate_left;simp only [Act.put,sA_,sB_,sC_,i64_w,i32_w];rfl
  refine pure_ (i:=3) (N:=some 29) (v:=?_) (a':=?_) #[t_,t_,t_,t_,f_,f_,f_,f_,f_,f_,f_,f_,f_,f_,f_,f_,f_] rfl rfl (by kernel_rfl) (fun _ _ _ h => h) (Or.inl ⟨by rfl,?_⟩) ?_ ?_
  rotate_left;intro w';go_simp;with_reducible rfl;rotate_left;simp only [Act.put,sA_,sB_,sC_,i64_w,i32_w];rfl
  refine pure_ (i:=4) (N:=some 30) (v:=?_) (a':=?_) #[t_,t_,t_,t_,t_,f_,f_,f_,f_,f_,f_,f_,f_,f_,f_,f_,f_] rfl rfl (by kernel_rfl) (fun _ _ _ h => h) (Or.inl ⟨by rfl,?_⟩) ?_ ?_
  rotate_left;intro w';go_simp;with_reducible rfl;rotate_left;simp only [Act.put,sA_,sB_,sC_,i64_w,i32_w];rfl
  refine pure_ (i:=6) (N:=some 32) (v:=?_) (a':=?_) #[t_,t_,t_,t_,t_,f_,t_,f_,f_,f_,f_,f_,f_,f_,f_,f_,f_] rfl rfl (by kernel_rfl) (fun _ _ _ h => h) (Or.inl ⟨by rfl,?_⟩) ?_ ?_
  rotate_left;intro w';go_simp;with_reducible rfl;rotate_left;simp only [Act.put,sA_,sB_,sC_,i64_w,i32_w];rfl
  refine pure_ (i:=11) (N:=some 37) (v:=?_) (a':=?_) #[t_,t_,t_,t_,t_,f_,t_,f_,f_,f_,f_,t_,f_,f_,f_,f_,f_] rfl rfl (by kernel_rfl) (fun _ _ _ h => h) (Or.inl ⟨by rfl,?_⟩) ?_ ?_
  rotate_left;intro w';go_simp;with_reducible rfl;rotate_left;simp only [Act.put,sA_,sB_,sC_,i64_w,i32_w];rfl
  refine take_ (i:=5) (N:=some 31) (v:=?_) (a':=?_) #[t_,t_,t_,t_,t_,t_,t_,f_,f_,f_,f_,t_,f_,f_,f_,f_,f_] rfl rfl (by kernel_rfl) (fun _ _ _ h => h) (Or.inl ⟨by rfl,?_⟩) hHeld ?_ ?_
  rotate_left;rintro w' ⟨s0,s1,s2⟩;go_simp;with_reducible rfl;rotate_left;simp only [Act.put,sA_,sB_,sC_,i64_w,i32_w];rfl
  refine pure_ (i:=7) (N:=some 33) (v:=?_) (a':=?_) #[t_,t_,t_,t_,t_,t_,t_,t_,f_,f_,f_,t_,f_,f_,f_,f_,f_] rfl rfl (by kernel_rfl) (fun _ _ _ h => h) (Or.inl ⟨by rfl,?_⟩) ?_ ?_
  rotate_left;intro w';go_simp;with_reducible rfl;rotate_left;simp only [Act.put,sA_,sB_,sC_,i64_w,i32_w];rfl
  refine pure_ (i:=8) (N:=some 34) (v:=?_) (a':=?_) #[t_,t_,t_,t_,t_,t_,t_,t_,t_,f_,f_,t_,f_,f_,f_,f_,f_] rfl rfl (by kernel_rfl) (fun _ _ _ h => h) (Or.inl ⟨by rfl,?_⟩) ?_ ?_
  rotate_left;intro w';go_simp;with_reducible rfl;rotate_left;simp only [Act.put,sA_,sB_,sC_,i64_w,i32_w];rfl
  refine take_ (i:=9) (N:=some 35) (v:=?_) (a':=?_) #[t_,t_,t_,t_,t_,t_,t_,t_,t_,t_,f_,t_,f_,f_,f_,f_,f_] rfl rfl (by kernel_rfl) (fun _ _ _ h => h) (Or.inl ⟨by rfl,?_⟩) hHeld ?_ ?_
  rotate_left;rintro w' ⟨s0,s1,s2⟩;go_simp;with_reducible rfl;rotate_left;simp only [Act.put,sA_,sB_,sC_,i64_w,i32_w];rfl
  refine take_ (i:=12) (N:=some 38) (v:=?_) (a':=?_) #[t_,t_,t_,t_,t_,t_,t_,t_,t_,t_,f_,t_,t_,f_,f_,f_,f_] rfl rfl (by kernel_rfl) (fun _ _ _ h => h) (Or.inl ⟨by rfl,?_⟩) hHeld ?_ ?_
  rotate_left;rintro w' ⟨s0,s1,s2⟩;go_simp;with_reducible rfl;rotate_left;simp only [Act.put,sA_,sB_,sC_,i64_w,i32_w];rfl
  refine pure_ (i:=13) (N:=some 39) (v:=?_) (a':=?_) #[t_,t_,t_,t_,t_,t_,t_,t_,t_,t_,f_,t_,t_,t_,f_,f_,f_] rfl rfl (by kernel_rfl) (fun _ _ _ h => h) (Or.inl ⟨by rfl,?_⟩) ?_ ?_
  rotate_left;intro w';go_simp;with_reducible rfl;rotate_left;simp only [Act.put,sA_,sB_,sC_,i64_w,i32_w];rfl
  refine join_ (σ := Value × Value) 2 #[t_,t_,t_,t_,t_,t_,t_,t_,t_,t_,t_,t_,t_,t_,t_,f_,f_] (fun s => [(36,s.1),(40,s.2)]) (MidC R tag w3 (x.granted) (eachL (setProp P mp { x with state := 3 }) 5 mp (x.claims.take x.granted)) ⟨2,mp,-1⟩) ?_ ?_
  rotate_left
  ·intro hCont
   refine two_ (i:=10) (j:=14) (Ni := some 36) (Nj := some 40) #[t_,t_,t_,t_,t_,t_,t_,t_,t_,t_,t_,t_,t_,t_,f_,f_,f_] #[t_,t_,t_,t_,t_,t_,t_,t_,t_,t_,f_,t_,t_,t_,t_,f_,f_] rfl rfl rfl rfl (by kernel_rfl) (by decide) (by decide) (fun K hK => ?_) (fun K hK => ?_)
   ·skip
    refine goes_ Try.func78 (by kernel_rfl) rfl #[.pointer (some ⟨p,0,none⟩),.int .i64 (i : Int),.int .i64 5,.int .i64 (x.granted : Int)] (by rfl) rfl rfl (by simp only [List.map_toArray,List.map_cons,List.map_nil]; rfl) ?_
    with_reducible refine (reach_ok (i:=i) (nn := x.granted) (n:=mp) (y := { x with state := 3 }) (P := setProp P mp { x with state := 3 }) 5 (R,1,0) hR HRk.out HPX0.out HG0.out.dom HI4.out HLE.out HCLS4.out HCL.out).mono ?_
    rintro e W1 ⟨ov,T1,rfl,hrow,hs⟩
    refine ⟨_,rfl,?_⟩
    obtain ⟨OA,ocap,rfl,o1,o2⟩ := hrow.form
    have HG1 := Lib.hid (HG0.out.trans hs)
    have HV1 := Lib.hid hrow
    clear hs hrow
    refine hK.out _ _ ⟨HG1.out.cell c3 HNP.out,HG1.out.cell e3 HNB.out,HG1.out.cell m3 HNM.out⟩ (fun hHeld => ?_)
    clear hK K
    refine norm_ (a':=?_) ?_ ?_
    rotate_left
    ·show Act.put _ (some 36) _ = _
     simp only [Act.put,sA_,sB_,sC_,i64_w,i32_w]
     rfl
    refine one_ (i:=14) (N:=some 40) #[t_,t_,t_,t_,t_,t_,t_,t_,t_,t_,t_,t_,t_,t_,t_,f_,f_] rfl rfl (by kernel_rfl) (by decide) (fun K hK => ?_)
    refine value_ (w1:=?_) (v:=?_) (by rfl) rfl ?_ ?_
    rotate_left 2
    ·go_simp
     constructor
     ·rfl
     ·rfl
    obtain ⟨W2,hW⟩ : ∃ yy,yy = World.alloc W1 (.cells #[.int .i64 2,.int .i64 mp,.int .i64 (-1)] 106) := ⟨_,rfl⟩
    rw [← hW]
    obtain ⟨T2,hT⟩ : ∃ yy,yy = give T1 (World.heap W1).size (R,2,0) := ⟨_,rfl⟩
    have hs : Fr (fun _ => False) T1 T2 W1 W2 := by rw [hW,hT]; exact Fr.give_alloc HG1.out.dom _ _
    obtain ⟨cb,hcb⟩ : ∃ yy,yy = (World.heap W1).size := ⟨_,rfl⟩
    have HC2 : Hid (Row T2 (R,2,0) 106 3 W2 (.slice (some ⟨cb,0,none⟩) 1 1) 1 (cames [⟨2,mp,-1⟩])) := Lib.hid (by rw [hW,hT,hcb]; exact Row.came1 HG1.out.dom (R,2,0) ⟨2,mp,-1⟩)
    rw [← hcb]
    have HG2 := Lib.hid (HG1.out.trans hs.up)
    have HV2 := Lib.hid (HV1.out.fr hs (fun x => x))
    clear hW hT hcb hs
    refine hK.out _ _ ⟨HG2.out.cell c3 HNP.out,HG2.out.cell e3 HNB.out,HG2.out.cell m3 HNM.out⟩ (fun hHeld => ?_)
    clear hK K
    refine norm_ (a':=?_) ?_ ?_
    rotate_left
    ·show Act.put _ (some 40) _ = _
     simp only [Act.put,sA_,sB_,sC_,i64_w,i32_w]
     rfl
    exact norm_ (by simp only [putAll,Act.put,sA_,sB_,sC_]) (hCont (.slice OA (x.granted) ocap,.slice (some ⟨cb,0,none⟩) 1 1) _ ⟨T2,OA,ocap,cb,rfl,rfl,HV2.out,HC2.out,HG2.out⟩)
   ·skip
    refine value_ (w1:=?_) (v:=?_) (by rfl) rfl ?_ ?_
    rotate_left 2
    ·go_simp
     constructor
     ·rfl
     ·rfl
    obtain ⟨W1,hW⟩ : ∃ yy,yy = World.alloc W0 (.cells #[.int .i64 2,.int .i64 mp,.int .i64 (-1)] 106) := ⟨_,rfl⟩
    rw [← hW]
    obtain ⟨T1,hT⟩ : ∃ yy,yy = give tag (World.heap W0).size (R,2,0) := ⟨_,rfl⟩
    have hs : Fr (fun _ => False) tag T1 W0 W1 := by rw [hW,hT]; exact Fr.give_alloc HG0.out.dom _ _
    obtain ⟨cb,hcb⟩ : ∃ yy,yy = (World.heap W0).size := ⟨_,rfl⟩
    have HC1 : Hid (Row T1 (R,2,0) 106 3 W1 (.slice (some ⟨cb,0,none⟩) 1 1) 1 (cames [⟨2,mp,-1⟩])) := Lib.hid (by rw [hW,hT,hcb]; exact Row.came1 HG0.out.dom (R,2,0) ⟨2,mp,-1⟩)
    rw [← hcb]
    have HG1 := Lib.hid (HG0.out.trans hs.up)
    have HPX1 := Lib.hid (HPX0.out.frF hs)
    clear hW hT hcb hs
    refine hK.out _ _ ⟨HG1.out.cell c3 HNP.out,HG1.out.cell e3 HNB.out,HG1.out.cell m3 HNM.out⟩ (fun hHeld => ?_)
    clear hK K
    refine norm_ (a':=?_) ?_ ?_
    rotate_left
    ·show Act.put _ (some 40) _ = _
     simp only [Act.put,sA_,sB_,sC_,i64_w,i32_w]
     rfl
    refine one_ (i:=10) (N:=some 36) #[t_,t_,t_,t_,t_,t_,t_,t_,t_,t_,t_,t_,t_,t_,t_,f_,f_] rfl rfl (by kernel_rfl) (by decide) (fun K hK => ?_)
    refine goes_ Try.func78 (by kernel_rfl) rfl #[.pointer (some ⟨p,0,none⟩),.int .i64 (i : Int),.int .i64 5,.int .i64 (x.granted : Int)] (by rfl) rfl rfl (by simp only [List.map_toArray,List.map_cons,List.map_nil]; rfl) ?_
    with_reducible refine (reach_ok (i:=i) (nn := x.granted) (n:=mp) (y := { x with state := 3 }) (P := setProp P mp { x with state := 3 }) 5 (R,1,0) hR HRk.out HPX1.out HG1.out.dom HI4.out HLE.out HCLS4.out HCL.out).mono ?_
    rintro e W2 ⟨ov,T2,rfl,hrow,hs⟩
    refine ⟨_,rfl,?_⟩
    obtain ⟨OA,ocap,rfl,o1,o2⟩ := hrow.form
    have HG2 := Lib.hid (HG1.out.trans hs)
    have HV2 := Lib.hid hrow
    have HC2 := Lib.hid (HC1.out.fr hs (by simp))
    clear hs hrow
    refine hK.out _ _ ⟨HG2.out.cell c3 HNP.out,HG2.out.cell e3 HNB.out,HG2.out.cell m3 HNM.out⟩ (fun hHeld => ?_)
    clear hK K
    refine norm_ (a':=?_) ?_ ?_
    rotate_left
    ·show Act.put _ (some 36) _ = _
     simp only [Act.put,sA_,sB_,sC_,i64_w,i32_w]
     rfl
    exact norm_ (by simp only [putAll,Act.put,sA_,sB_,sC_]) (hCont (.slice OA (x.granted) ocap,.slice (some ⟨cb,0,none⟩) 1 1) _ ⟨T2,OA,ocap,cb,rfl,rfl,HV2.out,HC2.out,HG2.out⟩)
  rintro ⟨v1,v2⟩ wm ⟨Tm,Am,capm,cbm,h1,h2,hrv,hrc,hg⟩
  simp only at h1 h2
  subst h1 h2
  have HRV := Lib.hid hrv
  have HRC := Lib.hid hrc
  have HG := Lib.hid hg
  have HZm := Lib.hid (hg.heap HZ3.out HNZ.out)
  have r0 : wm.cell? ⟨b1,0,none⟩ = some (.slice none 0 0) := cell_of HZm.out 0
  have r1 : wm.cell? ⟨b1,1,none⟩ = some (.slice none 0 0) := cell_of HZm.out 1
  have rz0 := free_of HZm.out 0
  have rz1 := free_of HZm.out 1
  clear hrv hrc hg
  have hHeld := And.intro (HG.out.cell c3 HNP.out) (And.intro (HG.out.cell e3 HNB.out) (HG.out.cell m3 HNM.out))
  refine norm_ (a':=?_) ?_ ?_
  rotate_left
  ·simp only [putAll,Act.put,sA_,sB_,sC_]
   rfl
  refine pure_ (i:=15) (N:=some 41) (v:=?_) (a':=?_) #[t_,t_,t_,t_,t_,t_,t_,t_,t_,t_,t_,t_,t_,t_,t_,t_,f_] rfl rfl (by kernel_rfl) (fun _ _ _ h => h) (Or.inl ⟨by rfl,?_⟩) ?_ ?_
  rotate_left;intro w';go_simp;with_reducible rfl;rotate_left;simp only [Act.put,sA_,sB_,sC_,i64_w,i32_w];rfl
  refine last_ (i:=16) (N:=none) #[t_,t_,t_,t_,t_,t_,t_,t_,t_,t_,t_,t_,t_,t_,t_,t_,t_] rfl rfl (by kernel_rfl) (by decide) (fun K hK => ?_)
  refine skip_ (w1:=?_) (by rfl) rfl ?_ ?_
  rotate_left
  ·go_simp
   rfl
  refine hK.out _ _ ?_
  clear hK K
  refine done_ (by kernel_rfl) ?_
  clear hHeld
  go_wp2_with fail
  obtain ⟨wz,hwz⟩ : ∃ yy,yy = (wm.setCell ⟨b1,0,none⟩ (.slice Am x.granted capm)).setCell ⟨b1,1,none⟩ (.slice (some ⟨cbm,0,none⟩) 1 1) := ⟨_,rfl⟩
  rw [← hwz]
  have hzz : wz.heap[b1]? = some (.cells #[.slice Am x.granted capm,.slice (some ⟨cbm,0,none⟩) 1 1] 41 (0,0)) := by
   rw [hwz,Go.Ng.heap_setCell_same (Go.Ng.heap_setCell_same HZm.out 0 _) 1 _]
   rfl
  have rr0 : wz.cell? ⟨b1,0,none⟩ = some (.slice Am x.granted capm) := cell_of hzz 0
  have rr1 : wz.cell? ⟨b1,1,none⟩ = some (.slice (some ⟨cbm,0,none⟩) 1 1) := cell_of hzz 1
  refine bodyPost_ret (v:=.agg #[.slice Am x.granted capm,.slice (some ⟨cbm,0,none⟩) 1 1]) (by simp [results,Try.results84,go_sem,rr0,rr1]) rfl ?_
  clear rr0 rr1
  rw [HMM.out,freeM_eq]
  have htz : (Tm b1).1 = 0 := by rw [HG.out.same b1 (lt_of_heap HZ3.out)]; exact HTB.out.2
  have hLz : Fr (fun t => t.1 = 0) Tm Tm wm wz := by rw [hwz]; exact ((Fr.refl HG.out.dom).sc b1 _ _ htz).sc b1 _ _ htz
  refine ⟨_,_,Tm,rfl,?_,?_,(((HP3.out.fr HG.out (fun r i e => by injection e with e _; exact HRk.out e.symm)).fr hLz (fun r i => hk0)).congr rfl rfl rfl (rfl)),by rw [hwz]; exact (((((HF3.out.mono (S' := fun t => t.1 = k ∨ t.1 = R) (fun t h => .inl (by rw [h]))).trans (HG.out.mono (fun t h => .inr (by rw [h])))).scn (by omega) _ _).scn (by omega) _ _))⟩
  ·show Row _ _ _ _ _ _ (P.out ++ _).length (posts (P.out ++ _))
   rw [HO.out]
   have := HRV.out.fr hLz hR
   have e2 : eachL (setProp P mp { x with state := 3 }) 5 mp (x.claims.take x.granted) = (x.claims.take x.granted).map (fun c => ⟨5,P.no,P.site c.item,mp,c.item,0⟩) := rfl
   rw [e2] at this
   rw [List.nil_append,List.length_map,List.length_take,Nat.min_eq_left hgle]
   exact this
  ·show Row _ _ _ _ _ _ (P.came ++ [_]).length (cames (P.came ++ [_]))
   rw [HC.out]
   exact HRC.out.fr hLz hR
end
theorem risPost_ok {tag : Nat → Tag} {k p : Nat} {P : PlaceM} {w : World} (m : Post) (h : RPRep tag k w p P) (hok : TagOk tag w) (hv : Valid P m) :
  Calls Try.prog 81 #[.pointer (some ⟨p,0,none⟩),Post.val m] w fun e w' => e = .returned (.bool true) ∧ Fr (fun _ => False) tag tag w w' := by
 obtain ⟨⟨k1,k2⟩,hd,⟨s1,s2⟩,⟨j1,j2⟩,⟨v1,v2⟩,⟨p1,p2⟩,hs⟩ := hv
 obtain ⟨mk,ms,md,mp,mi,mv⟩ := m
 simp only at k1 k2 hd s1 s2 j1 j2 v1 v2 p1 p2 hs
 obtain ⟨j,rfl⟩ := Int.eq_ofNat_of_zero_le j1
 obtain ⟨av,iv,pv,h1,h2,_,_⟩ := h.cells
 have hjl : j < P.sites.length := by omega
 obtain ⟨b,cap,rfl,hl1,hl2,hsc⟩ := PRep.site_cell h2 hjl
 unfold maxLen at hl2
 have c0 : w.cell? ⟨p,0,none⟩ = some (.int .i64 P.no) := cell_of h1 0
 have c1 : w.cell? ⟨p,1,none⟩ = some (.slice (some ⟨b,0,none⟩) P.sites.length cap) := cell_of h1 1
 have hpl := lt_of_heap h1
 have hbl := World.block_lt_of_cell? w _ hsc
 clear h h1 h2
 rw [hs] at hsc
 rw [← hd] at c0
 unfold Post.val
 clear hs hd
 rcases (show (mk = 1 ∧ mv = 0) ∨ (mk = 1 ∧ 0 < mv) ∨ mk = 2 ∨ mk = 3 ∨ mk = 4 ∨ mk = 5 by omega) with ⟨rfl,rfl⟩ | ⟨rfl,hmv⟩ | rfl | rfl | rfl | rfl <;> (
  simp at hsc v2
  try subst v2
  go_enter Try.func81,Try.ntmps81
  go_wp2_with fail
  go_quiet (fail)
  go_wp2_with fail
  go_quiet (fail)
  go_wp2
  go_ret
  exact ⟨rfl,(((Fr.refl hok).al _).dN _).dN _⟩)
section
variable {S : Tag → Prop} {tag tag' : Nat → Tag} {w w' : World} {k p R : Nat} {P P' : PlaceM} {mk ms md mp mi mv : Int}
theorem risPost_agg (h : RPRep tag k w p P) (hok : TagOk tag w) (hv : Valid P ⟨mk,ms,md,mp,mi,mv⟩) :
  Calls Try.prog 81 #[.pointer (some ⟨p,0,none⟩),.agg #[.int .i64 mk,.int .i64 ms,.int .i64 md,.int .i64 mp,.int .i64 mi,.int .i64 mv]] w fun e w' => e = .returned (.bool true) ∧ Fr (fun _ => False) tag tag w w' := risPost_ok ⟨mk,ms,md,mp,mi,mv⟩ h hok hv
theorem rasked_agg {j : Nat} {it : ItemM} (h : RPRep tag k w p P) (hok : TagOk tag w) (hR : R ≠ 0) (hRk : R ≠ k) (hj : P.items[j]? = some (some it)) (hmj : mi = j) (hd : md = P.no) (hpr : 0 ≤ mp) (hI : ItOk it) (ho : P.out = []) (hc : P.came = []) :
  Calls Try.prog 82 #[.pointer (some ⟨p,0,none⟩),.agg #[.int .i64 mk,.int .i64 ms,.int .i64 md,.int .i64 mp,.int .i64 mi,.int .i64 mv]] w (ROut R k p tag w (askedM P ⟨mk,ms,md,mp,mi,mv⟩ j it)) := rasked_ok ⟨mk,ms,md,mp,mi,mv⟩ h hok hR hRk hj hmj hd hpr hI ho hc
theorem rcommitted_agg {j : Nat} {it : ItemM} (h : RPRep tag k w p P) (hok : TagOk tag w) (hR : R ≠ 0) (hRk : R ≠ k) (hj : P.items[j]? = some (some it)) (hmj : mi = j) (hd : md = P.no) (hpr : 0 ≤ mp) (hI : ItOk it) (ho : P.out = []) (hc : P.came = []) :
  Calls Try.prog 85 #[.pointer (some ⟨p,0,none⟩),.agg #[.int .i64 mk,.int .i64 ms,.int .i64 md,.int .i64 mp,.int .i64 mi,.int .i64 mv]] w (ROut R k p tag w (committedM P ⟨mk,ms,md,mp,mi,mv⟩ j it)) := rcommitted_ok ⟨mk,ms,md,mp,mi,mv⟩ h hok hR hRk hj hmj hd hpr hI ho hc
theorem rfreed_agg {j : Nat} {it : ItemM} (h : RPRep tag k w p P) (hok : TagOk tag w) (hR : R ≠ 0) (hRk : R ≠ k) (hj : P.items[j]? = some (some it)) (hmj : mi = j) (hd : md = P.no) (hpr : 0 ≤ mp) (hI : ItOk it) (ho : P.out = []) (hc : P.came = []) :
  Calls Try.prog 86 #[.pointer (some ⟨p,0,none⟩),.agg #[.int .i64 mk,.int .i64 ms,.int .i64 md,.int .i64 mp,.int .i64 mi,.int .i64 mv]] w (ROut R k p tag w (freedM P ⟨mk,ms,md,mp,mi,mv⟩ j it)) := rfreed_ok ⟨mk,ms,md,mp,mi,mv⟩ h hok hR hRk hj hmj hd hpr hI ho hc
theorem rgranted_agg {x : PropM} (h : RPRep tag k w p P) (hok : TagOk tag w) (hR : R ≠ 0) (hRk : R ≠ k) (hW : WF P) (hnd : (P.props.map (·.1)).Nodup) (hf : find P.props mp = some x) (hpr : 0 ≤ mp) (ho : P.out = []) (hc : P.came = []) :
  Calls Try.prog 83 #[.pointer (some ⟨p,0,none⟩),.agg #[.int .i64 mk,.int .i64 ms,.int .i64 md,.int .i64 mp,.int .i64 mi,.int .i64 mv]] w (ROut R k p tag w (grantedM P ⟨mk,ms,md,mp,mi,mv⟩)) := rgranted_ok ⟨mk,ms,md,mp,mi,mv⟩ h hok hR hRk hW hnd hf hpr ho hc
theorem rrefused_agg {x : PropM} (h : RPRep tag k w p P) (hok : TagOk tag w) (hR : R ≠ 0) (hRk : R ≠ k) (hW : WF P) (hnd : (P.props.map (·.1)).Nodup) (hf : find P.props mp = some x) (hpr : 0 ≤ mp) (ho : P.out = []) (hc : P.came = []) :
  Calls Try.prog 84 #[.pointer (some ⟨p,0,none⟩),.agg #[.int .i64 mk,.int .i64 ms,.int .i64 md,.int .i64 mp,.int .i64 mi,.int .i64 mv]] w (ROut R k p tag w (refusedM P ⟨mk,ms,md,mp,mi,mv⟩)) := rrefused_ok ⟨mk,ms,md,mp,mi,mv⟩ h hok hR hRk hW hnd hf hpr ho hc
structure RWell (P : PlaceM) : Prop where
 wf : WF P
 nd : (P.props.map (·.1)).Nodup
 it : ∀ (j : Nat) it,P.items[j]? = some (some it) → ItOk it
 out : P.out = []
 came : P.came = []
def RTook (R k p : Nat) (tag : Nat → Tag) (w : World) (P' : PlaceM) (e : Ending) (w' : World) : Prop :=
 ∃ ov cv tag',e = .returned (.tuple #[.agg #[ov,cv],.int .i64 0]) ∧ Row tag' (R,1,0) 49 6 w' ov P'.out.length (posts P'.out) ∧ Row tag' (R,2,0) 106 3 w' cv P'.came.length (cames P'.came) ∧ RPRep tag' k w' p P' ∧ Fr (fun t => t.1 = k ∨ t.1 = R) tag tag' w w'
theorem rtake1 {j : Nat} {it : ItemM} (hj : P.items[j]? = some (some it)) (h : RPRep tag k w p P) (hok : TagOk tag w) (hR : R ≠ 0) (hRk : R ≠ k) (hv : Valid P ⟨1,ms,md,mp,(j : Int),mv⟩) (hW : RWell P) :
  Calls Try.prog 26 #[.pointer (some ⟨p,0,none⟩),.agg #[.int .i64 1,.int .i64 ms,.int .i64 md,.int .i64 mp,.int .i64 (j : Int),.int .i64 mv]] w (RTook R k p tag w (askedM P ⟨1,ms,md,mp,(j : Int),mv⟩ j it)) := by
 have HJ := Lib.hid hj
 clear hj
 have H := Lib.hid h
 have HV := Lib.hid hv
 have HW := Lib.hid hW
 have hd := hv.dst
 have hpr := hv.prop.1
 simp only at hd hpr
 subst hd
 have HPR := Lib.hid hpr
 have hk0 := h.k0
 clear h hv hW hpr
 go_enter Try.func26,Try.ntmps26
 go_upto_region 1 with fail
 obtain ⟨w1,hw1⟩ : ∃ x,x = (w.alloc (.cells #[.int .i64 1,.int .i64 ms,.int .i64 P.no,.int .i64 mp,.int .i64 (j : Int),.int .i64 mv] 49)).alloc (.cells #[.slice none 0 0,.slice none 0 0] 41) := ⟨_,rfl⟩
 rw [← hw1]
 obtain ⟨b,hb⟩ : ∃ x,x = w.heap.size := ⟨_,rfl⟩
 obtain ⟨b1,hb1⟩ : ∃ x,x = w.heap.size + 1 := ⟨_,rfl⟩
 rw [← hb1,← hb]
 have hwb : w.heap.size ≤ b := by omega
 have hbb : b < b1 := by omega
 have HF1 : Hid (Fr (fun _ => False) tag tag w w1) := Lib.hid (by rw [hw1]; exact ((Fr.refl hok).al _).al _)
 have HM1 : Hid (w1.heap[b]? = some (.cells #[.int .i64 1,.int .i64 ms,.int .i64 P.no,.int .i64 mp,.int .i64 (j : Int),.int .i64 mv] 49 (0,0))) := Lib.hid (by rw [hw1,hb]; exact heap_alloc_lt (heap_alloc_at _ _) _)
 have HZ1 : Hid (w1.heap[b1]? = some (.cells #[.slice none 0 0,.slice none 0 0] 41 (0,0))) := Lib.hid (by rw [hw1,hb1]; exact heap_alloc_at1 _ _ _)
 have HTB : Hid ((tag b).1 = 0 ∧ (tag b1).1 = 0) := Lib.hid ⟨tag_new hok (by omega),tag_new hok (by omega)⟩
 have HP1 := Lib.hid (H.out.frF HF1.out)
 have hok1 := HF1.out.dom
 clear hw1 hb hb1
 have m0 : w1.cell? ⟨b,0,none⟩ = some (.int .i64 1) := cell_of HM1.out 0
 have m1 : w1.cell? ⟨b,1,none⟩ = some (.int .i64 ms) := cell_of HM1.out 1
 have m2 : w1.cell? ⟨b,2,none⟩ = some (.int .i64 P.no) := cell_of HM1.out 2
 have m3 : w1.cell? ⟨b,3,none⟩ = some (.int .i64 mp) := cell_of HM1.out 3
 have m4 : w1.cell? ⟨b,4,none⟩ = some (.int .i64 (j : Int)) := cell_of HM1.out 4
 have m5 : w1.cell? ⟨b,5,none⟩ = some (.int .i64 mv) := cell_of HM1.out 5
 go_upto_region 4 with (
  go_at_call 81
  refine (risPost_agg HP1.out hok1 HV.out).mono ?_
  rintro e w2 ⟨rfl,hF2⟩
  have HF2 := Lib.hid (HF1.out.trans hF2)
  have HM2 := Lib.hid (hF2.heap HM1.out (fun x => x))
  have HZ2 := Lib.hid (hF2.heap HZ1.out (fun x => x))
  have HP2 := Lib.hid (HP1.out.frF hF2)
  have hok2 := hF2.dom
  clear hF2)
 clear m0 m1 m2 m3 m4 m5
 have m0 : w2.cell? ⟨b,0,none⟩ = some (.int .i64 1) := cell_of HM2.out 0
 have m1 : w2.cell? ⟨b,1,none⟩ = some (.int .i64 ms) := cell_of HM2.out 1
 have m2 : w2.cell? ⟨b,2,none⟩ = some (.int .i64 P.no) := cell_of HM2.out 2
 have m3 : w2.cell? ⟨b,3,none⟩ = some (.int .i64 mp) := cell_of HM2.out 3
 have m4 : w2.cell? ⟨b,4,none⟩ = some (.int .i64 (j : Int)) := cell_of HM2.out 4
 have m5 : w2.cell? ⟨b,5,none⟩ = some (.int .i64 mv) := cell_of HM2.out 5
 go_wp2_with (fail)
 refine (rasked_agg HP2.out hok2 hR hRk HJ.out rfl rfl HPR.out (HW.out.it _ _ HJ.out) HW.out.out HW.out.came).mono ?_
 rintro e w3 ⟨ov,cv,tag3,rfl,h1,h2,h3,h4⟩
 obtain ⟨OA,ocap,hov,_,_⟩ := h1.form
 obtain ⟨VA,vcap,hcv,_,_⟩ := h2.form
 generalize hM : (askedM P ⟨1,ms,P.no,mp,(j : Int),mv⟩ j it) = M at h1 h2 h3 hov hcv ⊢
 subst hov hcv
 have hZ3 := h4.heap HZ2.out (by
  intro e
  rcases e with e | e
  ·exact hk0 (by rw [← e,HTB.out.2])
  ·exact hR (by rw [← e,HTB.out.2]))
 have r0 : w3.cell? ⟨b1,0,none⟩ = some (.slice none 0 0) := cell_of hZ3 0
 have r1 : w3.cell? ⟨b1,1,none⟩ = some (.slice none 0 0) := cell_of hZ3 1
 have rz0 := free_of hZ3 0
 have rz1 := free_of hZ3 1
 have HZ3 := Lib.hid hZ3
 have K1 := Lib.hid h1
 have K2 := Lib.hid h2
 have K3 := Lib.hid h3
 have K4 := Lib.hid h4
 have HMM := Lib.hid hM
 clear h1 h2 h3 h4 hZ3 hM
 go_wp2_with fail
 clear m0 m1 m2 m3 m4 m5
 obtain ⟨wz,hwz⟩ : ∃ x,x = (w3.setCell ⟨b1,0,none⟩ (.slice OA M.out.length ocap)).setCell ⟨b1,1,none⟩ (.slice VA M.came.length vcap) := ⟨_,rfl⟩
 rw [← hwz]
 have hzz : wz.heap[b1]? = some (.cells #[.slice OA M.out.length ocap,.slice VA M.came.length vcap] 41 (0,0)) := by
  rw [hwz,Go.Ng.heap_setCell_same (Go.Ng.heap_setCell_same HZ3.out 0 _) 1 _]
  rfl
 have rr0 : wz.cell? ⟨b1,0,none⟩ = some (.slice OA M.out.length ocap) := cell_of hzz 0
 have rr1 : wz.cell? ⟨b1,1,none⟩ = some (.slice VA M.came.length vcap) := cell_of hzz 1
 refine bodyPost_ret (v:=.tuple #[.agg #[.slice OA M.out.length ocap,.slice VA M.came.length vcap],.int .i64 0]) (by simp [results,Try.results26,go_sem,rr0,rr1]) rfl ?_
 have htz : (tag3 b1).1 = 0 := by rw [K4.out.same b1 (lt_of_heap HZ2.out)]; exact HTB.out.2
 have hLz : Fr (fun t => t.1 = 0) tag3 tag3 w3 wz := by rw [hwz]; exact ((Fr.refl K4.out.dom).sc b1 _ _ htz).sc b1 _ _ htz
 rw [HMM.out]
 exact ⟨_,_,tag3,rfl,K1.out.fr hLz hR,K2.out.fr hLz hR,K3.out.fr hLz (fun r i => hk0),by rw [hwz]; exact (((HF2.out.up.trans K4.out).scn (by omega) _ _).scn (by omega) _ _)⟩
theorem rtake2 {x : PropM} (hf : find P.props mp = some x) (h : RPRep tag k w p P) (hok : TagOk tag w) (hR : R ≠ 0) (hRk : R ≠ k) (hv : Valid P ⟨2,ms,md,mp,mi,mv⟩) (hW : RWell P) :
  Calls Try.prog 26 #[.pointer (some ⟨p,0,none⟩),.agg #[.int .i64 2,.int .i64 ms,.int .i64 md,.int .i64 mp,.int .i64 mi,.int .i64 mv]] w (RTook R k p tag w (grantedM P ⟨2,ms,md,mp,mi,mv⟩)) := by
 obtain ⟨i,_,hix⟩ := find_idx hf
 have HIX := Lib.hid hix
 have HX := Lib.hid hf
 have i0 : (0 : Int) ≤ (i : Int) := by omega
 clear hix hf
 have H := Lib.hid h
 have HV := Lib.hid hv
 have HW := Lib.hid hW
 have hd := hv.dst
 have hpr := hv.prop.1
 simp only at hd hpr
 subst hd
 have HPR := Lib.hid hpr
 have hk0 := h.k0
 clear h hv hW hpr
 go_enter Try.func26,Try.ntmps26
 go_upto_region 1 with fail
 obtain ⟨w1,hw1⟩ : ∃ x,x = (w.alloc (.cells #[.int .i64 2,.int .i64 ms,.int .i64 P.no,.int .i64 mp,.int .i64 mi,.int .i64 mv] 49)).alloc (.cells #[.slice none 0 0,.slice none 0 0] 41) := ⟨_,rfl⟩
 rw [← hw1]
 obtain ⟨b,hb⟩ : ∃ x,x = w.heap.size := ⟨_,rfl⟩
 obtain ⟨b1,hb1⟩ : ∃ x,x = w.heap.size + 1 := ⟨_,rfl⟩
 rw [← hb1,← hb]
 have hwb : w.heap.size ≤ b := by omega
 have hbb : b < b1 := by omega
 have HF1 : Hid (Fr (fun _ => False) tag tag w w1) := Lib.hid (by rw [hw1]; exact ((Fr.refl hok).al _).al _)
 have HM1 : Hid (w1.heap[b]? = some (.cells #[.int .i64 2,.int .i64 ms,.int .i64 P.no,.int .i64 mp,.int .i64 mi,.int .i64 mv] 49 (0,0))) := Lib.hid (by rw [hw1,hb]; exact heap_alloc_lt (heap_alloc_at _ _) _)
 have HZ1 : Hid (w1.heap[b1]? = some (.cells #[.slice none 0 0,.slice none 0 0] 41 (0,0))) := Lib.hid (by rw [hw1,hb1]; exact heap_alloc_at1 _ _ _)
 have HTB : Hid ((tag b).1 = 0 ∧ (tag b1).1 = 0) := Lib.hid ⟨tag_new hok (by omega),tag_new hok (by omega)⟩
 have HP1 := Lib.hid (H.out.frF HF1.out)
 have hok1 := HF1.out.dom
 clear hw1 hb hb1
 have m0 : w1.cell? ⟨b,0,none⟩ = some (.int .i64 2) := cell_of HM1.out 0
 have m1 : w1.cell? ⟨b,1,none⟩ = some (.int .i64 ms) := cell_of HM1.out 1
 have m2 : w1.cell? ⟨b,2,none⟩ = some (.int .i64 P.no) := cell_of HM1.out 2
 have m3 : w1.cell? ⟨b,3,none⟩ = some (.int .i64 mp) := cell_of HM1.out 3
 have m4 : w1.cell? ⟨b,4,none⟩ = some (.int .i64 mi) := cell_of HM1.out 4
 have m5 : w1.cell? ⟨b,5,none⟩ = some (.int .i64 mv) := cell_of HM1.out 5
 go_upto_region 4 with (
  go_at_call 81
  refine (risPost_agg HP1.out hok1 HV.out).mono ?_
  rintro e w2 ⟨rfl,hF2⟩
  have HF2 := Lib.hid (HF1.out.trans hF2)
  have HM2 := Lib.hid (hF2.heap HM1.out (fun x => x))
  have HZ2 := Lib.hid (hF2.heap HZ1.out (fun x => x))
  have HP2 := Lib.hid (HP1.out.frF hF2)
  have hok2 := hF2.dom
  clear hF2)
 clear m0 m1 m2 m3 m4 m5
 have m0 : w2.cell? ⟨b,0,none⟩ = some (.int .i64 2) := cell_of HM2.out 0
 have m1 : w2.cell? ⟨b,1,none⟩ = some (.int .i64 ms) := cell_of HM2.out 1
 have m2 : w2.cell? ⟨b,2,none⟩ = some (.int .i64 P.no) := cell_of HM2.out 2
 have m3 : w2.cell? ⟨b,3,none⟩ = some (.int .i64 mp) := cell_of HM2.out 3
 have m4 : w2.cell? ⟨b,4,none⟩ = some (.int .i64 mi) := cell_of HM2.out 4
 have m5 : w2.cell? ⟨b,5,none⟩ = some (.int .i64 mv) := cell_of HM2.out 5
 go_wp2_with ((go_at_call 74; refine (rfind_val mp i HIX.out HP2.out).mono ?_; rintro e w5 ⟨rfl,h5⟩; have h5 := h5.symm; subst h5))
 refine (rgranted_agg HP2.out hok2 hR hRk HW.out.wf HW.out.nd HX.out HPR.out HW.out.out HW.out.came).mono ?_
 rintro e w3 ⟨ov,cv,tag3,rfl,h1,h2,h3,h4⟩
 obtain ⟨OA,ocap,hov,_,_⟩ := h1.form
 obtain ⟨VA,vcap,hcv,_,_⟩ := h2.form
 generalize hM : (grantedM P ⟨2,ms,P.no,mp,mi,mv⟩) = M at h1 h2 h3 hov hcv ⊢
 subst hov hcv
 have hZ3 := h4.heap HZ2.out (by
  intro e
  rcases e with e | e
  ·exact hk0 (by rw [← e,HTB.out.2])
  ·exact hR (by rw [← e,HTB.out.2]))
 have r0 : w3.cell? ⟨b1,0,none⟩ = some (.slice none 0 0) := cell_of hZ3 0
 have r1 : w3.cell? ⟨b1,1,none⟩ = some (.slice none 0 0) := cell_of hZ3 1
 have rz0 := free_of hZ3 0
 have rz1 := free_of hZ3 1
 have HZ3 := Lib.hid hZ3
 have K1 := Lib.hid h1
 have K2 := Lib.hid h2
 have K3 := Lib.hid h3
 have K4 := Lib.hid h4
 have HMM := Lib.hid hM
 clear h1 h2 h3 h4 hZ3 hM
 go_wp2_with fail
 clear m0 m1 m2 m3 m4 m5
 obtain ⟨wz,hwz⟩ : ∃ x,x = (w3.setCell ⟨b1,0,none⟩ (.slice OA M.out.length ocap)).setCell ⟨b1,1,none⟩ (.slice VA M.came.length vcap) := ⟨_,rfl⟩
 rw [← hwz]
 have hzz : wz.heap[b1]? = some (.cells #[.slice OA M.out.length ocap,.slice VA M.came.length vcap] 41 (0,0)) := by
  rw [hwz,Go.Ng.heap_setCell_same (Go.Ng.heap_setCell_same HZ3.out 0 _) 1 _]
  rfl
 have rr0 : wz.cell? ⟨b1,0,none⟩ = some (.slice OA M.out.length ocap) := cell_of hzz 0
 have rr1 : wz.cell? ⟨b1,1,none⟩ = some (.slice VA M.came.length vcap) := cell_of hzz 1
 refine bodyPost_ret (v:=.tuple #[.agg #[.slice OA M.out.length ocap,.slice VA M.came.length vcap],.int .i64 0]) (by simp [results,Try.results26,go_sem,rr0,rr1]) rfl ?_
 have htz : (tag3 b1).1 = 0 := by rw [K4.out.same b1 (lt_of_heap HZ2.out)]; exact HTB.out.2
 have hLz : Fr (fun t => t.1 = 0) tag3 tag3 w3 wz := by rw [hwz]; exact ((Fr.refl K4.out.dom).sc b1 _ _ htz).sc b1 _ _ htz
 rw [HMM.out]
 exact ⟨_,_,tag3,rfl,K1.out.fr hLz hR,K2.out.fr hLz hR,K3.out.fr hLz (fun r i => hk0),by rw [hwz]; exact (((HF2.out.up.trans K4.out).scn (by omega) _ _).scn (by omega) _ _)⟩
theorem rtake3 {x : PropM} (hf : find P.props mp = some x) (h : RPRep tag k w p P) (hok : TagOk tag w) (hR : R ≠ 0) (hRk : R ≠ k) (hv : Valid P ⟨3,ms,md,mp,mi,mv⟩) (hW : RWell P) :
  Calls Try.prog 26 #[.pointer (some ⟨p,0,none⟩),.agg #[.int .i64 3,.int .i64 ms,.int .i64 md,.int .i64 mp,.int .i64 mi,.int .i64 mv]] w (RTook R k p tag w (refusedM P ⟨3,ms,md,mp,mi,mv⟩)) := by
 obtain ⟨i,_,hix⟩ := find_idx hf
 have HIX := Lib.hid hix
 have HX := Lib.hid hf
 have i0 : (0 : Int) ≤ (i : Int) := by omega
 clear hix hf
 have H := Lib.hid h
 have HV := Lib.hid hv
 have HW := Lib.hid hW
 have hd := hv.dst
 have hpr := hv.prop.1
 simp only at hd hpr
 subst hd
 have HPR := Lib.hid hpr
 have hk0 := h.k0
 clear h hv hW hpr
 go_enter Try.func26,Try.ntmps26
 go_upto_region 1 with fail
 obtain ⟨w1,hw1⟩ : ∃ x,x = (w.alloc (.cells #[.int .i64 3,.int .i64 ms,.int .i64 P.no,.int .i64 mp,.int .i64 mi,.int .i64 mv] 49)).alloc (.cells #[.slice none 0 0,.slice none 0 0] 41) := ⟨_,rfl⟩
 rw [← hw1]
 obtain ⟨b,hb⟩ : ∃ x,x = w.heap.size := ⟨_,rfl⟩
 obtain ⟨b1,hb1⟩ : ∃ x,x = w.heap.size + 1 := ⟨_,rfl⟩
 rw [← hb1,← hb]
 have hwb : w.heap.size ≤ b := by omega
 have hbb : b < b1 := by omega
 have HF1 : Hid (Fr (fun _ => False) tag tag w w1) := Lib.hid (by rw [hw1]; exact ((Fr.refl hok).al _).al _)
 have HM1 : Hid (w1.heap[b]? = some (.cells #[.int .i64 3,.int .i64 ms,.int .i64 P.no,.int .i64 mp,.int .i64 mi,.int .i64 mv] 49 (0,0))) := Lib.hid (by rw [hw1,hb]; exact heap_alloc_lt (heap_alloc_at _ _) _)
 have HZ1 : Hid (w1.heap[b1]? = some (.cells #[.slice none 0 0,.slice none 0 0] 41 (0,0))) := Lib.hid (by rw [hw1,hb1]; exact heap_alloc_at1 _ _ _)
 have HTB : Hid ((tag b).1 = 0 ∧ (tag b1).1 = 0) := Lib.hid ⟨tag_new hok (by omega),tag_new hok (by omega)⟩
 have HP1 := Lib.hid (H.out.frF HF1.out)
 have hok1 := HF1.out.dom
 clear hw1 hb hb1
 have m0 : w1.cell? ⟨b,0,none⟩ = some (.int .i64 3) := cell_of HM1.out 0
 have m1 : w1.cell? ⟨b,1,none⟩ = some (.int .i64 ms) := cell_of HM1.out 1
 have m2 : w1.cell? ⟨b,2,none⟩ = some (.int .i64 P.no) := cell_of HM1.out 2
 have m3 : w1.cell? ⟨b,3,none⟩ = some (.int .i64 mp) := cell_of HM1.out 3
 have m4 : w1.cell? ⟨b,4,none⟩ = some (.int .i64 mi) := cell_of HM1.out 4
 have m5 : w1.cell? ⟨b,5,none⟩ = some (.int .i64 mv) := cell_of HM1.out 5
 go_upto_region 4 with (
  go_at_call 81
  refine (risPost_agg HP1.out hok1 HV.out).mono ?_
  rintro e w2 ⟨rfl,hF2⟩
  have HF2 := Lib.hid (HF1.out.trans hF2)
  have HM2 := Lib.hid (hF2.heap HM1.out (fun x => x))
  have HZ2 := Lib.hid (hF2.heap HZ1.out (fun x => x))
  have HP2 := Lib.hid (HP1.out.frF hF2)
  have hok2 := hF2.dom
  clear hF2)
 clear m0 m1 m2 m3 m4 m5
 have m0 : w2.cell? ⟨b,0,none⟩ = some (.int .i64 3) := cell_of HM2.out 0
 have m1 : w2.cell? ⟨b,1,none⟩ = some (.int .i64 ms) := cell_of HM2.out 1
 have m2 : w2.cell? ⟨b,2,none⟩ = some (.int .i64 P.no) := cell_of HM2.out 2
 have m3 : w2.cell? ⟨b,3,none⟩ = some (.int .i64 mp) := cell_of HM2.out 3
 have m4 : w2.cell? ⟨b,4,none⟩ = some (.int .i64 mi) := cell_of HM2.out 4
 have m5 : w2.cell? ⟨b,5,none⟩ = some (.int .i64 mv) := cell_of HM2.out 5
 go_wp2_with ((go_at_call 74; refine (rfind_val mp i HIX.out HP2.out).mono ?_; rintro e w5 ⟨rfl,h5⟩; have h5 := h5.symm; subst h5))
 refine (rrefused_agg HP2.out hok2 hR hRk HW.out.wf HW.out.nd HX.out HPR.out HW.out.out HW.out.came).mono ?_
 rintro e w3 ⟨ov,cv,tag3,rfl,h1,h2,h3,h4⟩
 obtain ⟨OA,ocap,hov,_,_⟩ := h1.form
 obtain ⟨VA,vcap,hcv,_,_⟩ := h2.form
 generalize hM : (refusedM P ⟨3,ms,P.no,mp,mi,mv⟩) = M at h1 h2 h3 hov hcv ⊢
 subst hov hcv
 have hZ3 := h4.heap HZ2.out (by
  intro e
  rcases e with e | e
  ·exact hk0 (by rw [← e,HTB.out.2])
  ·exact hR (by rw [← e,HTB.out.2]))
 have r0 : w3.cell? ⟨b1,0,none⟩ = some (.slice none 0 0) := cell_of hZ3 0
 have r1 : w3.cell? ⟨b1,1,none⟩ = some (.slice none 0 0) := cell_of hZ3 1
 have rz0 := free_of hZ3 0
 have rz1 := free_of hZ3 1
 have HZ3 := Lib.hid hZ3
 have K1 := Lib.hid h1
 have K2 := Lib.hid h2
 have K3 := Lib.hid h3
 have K4 := Lib.hid h4
 have HMM := Lib.hid hM
 clear h1 h2 h3 h4 hZ3 hM
 go_wp2_with fail
 clear m0 m1 m2 m3 m4 m5
 obtain ⟨wz,hwz⟩ : ∃ x,x = (w3.setCell ⟨b1,0,none⟩ (.slice OA M.out.length ocap)).setCell ⟨b1,1,none⟩ (.slice VA M.came.length vcap) := ⟨_,rfl⟩
 rw [← hwz]
 have hzz : wz.heap[b1]? = some (.cells #[.slice OA M.out.length ocap,.slice VA M.came.length vcap] 41 (0,0)) := by
  rw [hwz,Go.Ng.heap_setCell_same (Go.Ng.heap_setCell_same HZ3.out 0 _) 1 _]
  rfl
 have rr0 : wz.cell? ⟨b1,0,none⟩ = some (.slice OA M.out.length ocap) := cell_of hzz 0
 have rr1 : wz.cell? ⟨b1,1,none⟩ = some (.slice VA M.came.length vcap) := cell_of hzz 1
 refine bodyPost_ret (v:=.tuple #[.agg #[.slice OA M.out.length ocap,.slice VA M.came.length vcap],.int .i64 0]) (by simp [results,Try.results26,go_sem,rr0,rr1]) rfl ?_
 have htz : (tag3 b1).1 = 0 := by rw [K4.out.same b1 (lt_of_heap HZ2.out)]; exact HTB.out.2
 have hLz : Fr (fun t => t.1 = 0) tag3 tag3 w3 wz := by rw [hwz]; exact ((Fr.refl K4.out.dom).sc b1 _ _ htz).sc b1 _ _ htz
 rw [HMM.out]
 exact ⟨_,_,tag3,rfl,K1.out.fr hLz hR,K2.out.fr hLz hR,K3.out.fr hLz (fun r i => hk0),by rw [hwz]; exact (((HF2.out.up.trans K4.out).scn (by omega) _ _).scn (by omega) _ _)⟩
theorem rtake4 {j : Nat} {it : ItemM} (hj : P.items[j]? = some (some it)) (h : RPRep tag k w p P) (hok : TagOk tag w) (hR : R ≠ 0) (hRk : R ≠ k) (hv : Valid P ⟨4,ms,md,mp,(j : Int),mv⟩) (hW : RWell P) :
  Calls Try.prog 26 #[.pointer (some ⟨p,0,none⟩),.agg #[.int .i64 4,.int .i64 ms,.int .i64 md,.int .i64 mp,.int .i64 (j : Int),.int .i64 mv]] w (RTook R k p tag w (committedM P ⟨4,ms,md,mp,(j : Int),mv⟩ j it)) := by
 have HJ := Lib.hid hj
 clear hj
 have H := Lib.hid h
 have HV := Lib.hid hv
 have HW := Lib.hid hW
 have hd := hv.dst
 have hpr := hv.prop.1
 simp only at hd hpr
 subst hd
 have HPR := Lib.hid hpr
 have hk0 := h.k0
 clear h hv hW hpr
 go_enter Try.func26,Try.ntmps26
 go_upto_region 1 with fail
 obtain ⟨w1,hw1⟩ : ∃ x,x = (w.alloc (.cells #[.int .i64 4,.int .i64 ms,.int .i64 P.no,.int .i64 mp,.int .i64 (j : Int),.int .i64 mv] 49)).alloc (.cells #[.slice none 0 0,.slice none 0 0] 41) := ⟨_,rfl⟩
 rw [← hw1]
 obtain ⟨b,hb⟩ : ∃ x,x = w.heap.size := ⟨_,rfl⟩
 obtain ⟨b1,hb1⟩ : ∃ x,x = w.heap.size + 1 := ⟨_,rfl⟩
 rw [← hb1,← hb]
 have hwb : w.heap.size ≤ b := by omega
 have hbb : b < b1 := by omega
 have HF1 : Hid (Fr (fun _ => False) tag tag w w1) := Lib.hid (by rw [hw1]; exact ((Fr.refl hok).al _).al _)
 have HM1 : Hid (w1.heap[b]? = some (.cells #[.int .i64 4,.int .i64 ms,.int .i64 P.no,.int .i64 mp,.int .i64 (j : Int),.int .i64 mv] 49 (0,0))) := Lib.hid (by rw [hw1,hb]; exact heap_alloc_lt (heap_alloc_at _ _) _)
 have HZ1 : Hid (w1.heap[b1]? = some (.cells #[.slice none 0 0,.slice none 0 0] 41 (0,0))) := Lib.hid (by rw [hw1,hb1]; exact heap_alloc_at1 _ _ _)
 have HTB : Hid ((tag b).1 = 0 ∧ (tag b1).1 = 0) := Lib.hid ⟨tag_new hok (by omega),tag_new hok (by omega)⟩
 have HP1 := Lib.hid (H.out.frF HF1.out)
 have hok1 := HF1.out.dom
 clear hw1 hb hb1
 have m0 : w1.cell? ⟨b,0,none⟩ = some (.int .i64 4) := cell_of HM1.out 0
 have m1 : w1.cell? ⟨b,1,none⟩ = some (.int .i64 ms) := cell_of HM1.out 1
 have m2 : w1.cell? ⟨b,2,none⟩ = some (.int .i64 P.no) := cell_of HM1.out 2
 have m3 : w1.cell? ⟨b,3,none⟩ = some (.int .i64 mp) := cell_of HM1.out 3
 have m4 : w1.cell? ⟨b,4,none⟩ = some (.int .i64 (j : Int)) := cell_of HM1.out 4
 have m5 : w1.cell? ⟨b,5,none⟩ = some (.int .i64 mv) := cell_of HM1.out 5
 go_upto_region 4 with (
  go_at_call 81
  refine (risPost_agg HP1.out hok1 HV.out).mono ?_
  rintro e w2 ⟨rfl,hF2⟩
  have HF2 := Lib.hid (HF1.out.trans hF2)
  have HM2 := Lib.hid (hF2.heap HM1.out (fun x => x))
  have HZ2 := Lib.hid (hF2.heap HZ1.out (fun x => x))
  have HP2 := Lib.hid (HP1.out.frF hF2)
  have hok2 := hF2.dom
  clear hF2)
 clear m0 m1 m2 m3 m4 m5
 have m0 : w2.cell? ⟨b,0,none⟩ = some (.int .i64 4) := cell_of HM2.out 0
 have m1 : w2.cell? ⟨b,1,none⟩ = some (.int .i64 ms) := cell_of HM2.out 1
 have m2 : w2.cell? ⟨b,2,none⟩ = some (.int .i64 P.no) := cell_of HM2.out 2
 have m3 : w2.cell? ⟨b,3,none⟩ = some (.int .i64 mp) := cell_of HM2.out 3
 have m4 : w2.cell? ⟨b,4,none⟩ = some (.int .i64 (j : Int)) := cell_of HM2.out 4
 have m5 : w2.cell? ⟨b,5,none⟩ = some (.int .i64 mv) := cell_of HM2.out 5
 go_wp2_with (fail)
 refine (rcommitted_agg HP2.out hok2 hR hRk HJ.out rfl rfl HPR.out (HW.out.it _ _ HJ.out) HW.out.out HW.out.came).mono ?_
 rintro e w3 ⟨ov,cv,tag3,rfl,h1,h2,h3,h4⟩
 obtain ⟨OA,ocap,hov,_,_⟩ := h1.form
 obtain ⟨VA,vcap,hcv,_,_⟩ := h2.form
 generalize hM : (committedM P ⟨4,ms,P.no,mp,(j : Int),mv⟩ j it) = M at h1 h2 h3 hov hcv ⊢
 subst hov hcv
 have hZ3 := h4.heap HZ2.out (by
  intro e
  rcases e with e | e
  ·exact hk0 (by rw [← e,HTB.out.2])
  ·exact hR (by rw [← e,HTB.out.2]))
 have r0 : w3.cell? ⟨b1,0,none⟩ = some (.slice none 0 0) := cell_of hZ3 0
 have r1 : w3.cell? ⟨b1,1,none⟩ = some (.slice none 0 0) := cell_of hZ3 1
 have rz0 := free_of hZ3 0
 have rz1 := free_of hZ3 1
 have HZ3 := Lib.hid hZ3
 have K1 := Lib.hid h1
 have K2 := Lib.hid h2
 have K3 := Lib.hid h3
 have K4 := Lib.hid h4
 have HMM := Lib.hid hM
 clear h1 h2 h3 h4 hZ3 hM
 go_wp2_with fail
 clear m0 m1 m2 m3 m4 m5
 obtain ⟨wz,hwz⟩ : ∃ x,x = (w3.setCell ⟨b1,0,none⟩ (.slice OA M.out.length ocap)).setCell ⟨b1,1,none⟩ (.slice VA M.came.length vcap) := ⟨_,rfl⟩
 rw [← hwz]
 have hzz : wz.heap[b1]? = some (.cells #[.slice OA M.out.length ocap,.slice VA M.came.length vcap] 41 (0,0)) := by
  rw [hwz,Go.Ng.heap_setCell_same (Go.Ng.heap_setCell_same HZ3.out 0 _) 1 _]
  rfl
 have rr0 : wz.cell? ⟨b1,0,none⟩ = some (.slice OA M.out.length ocap) := cell_of hzz 0
 have rr1 : wz.cell? ⟨b1,1,none⟩ = some (.slice VA M.came.length vcap) := cell_of hzz 1
 refine bodyPost_ret (v:=.tuple #[.agg #[.slice OA M.out.length ocap,.slice VA M.came.length vcap],.int .i64 0]) (by simp [results,Try.results26,go_sem,rr0,rr1]) rfl ?_
 have htz : (tag3 b1).1 = 0 := by rw [K4.out.same b1 (lt_of_heap HZ2.out)]; exact HTB.out.2
 have hLz : Fr (fun t => t.1 = 0) tag3 tag3 w3 wz := by rw [hwz]; exact ((Fr.refl K4.out.dom).sc b1 _ _ htz).sc b1 _ _ htz
 rw [HMM.out]
 exact ⟨_,_,tag3,rfl,K1.out.fr hLz hR,K2.out.fr hLz hR,K3.out.fr hLz (fun r i => hk0),by rw [hwz]; exact (((HF2.out.up.trans K4.out).scn (by omega) _ _).scn (by omega) _ _)⟩
theorem rtake5 {j : Nat} {it : ItemM} (hj : P.items[j]? = some (some it)) (h : RPRep tag k w p P) (hok : TagOk tag w) (hR : R ≠ 0) (hRk : R ≠ k) (hv : Valid P ⟨5,ms,md,mp,(j : Int),mv⟩) (hW : RWell P) :
  Calls Try.prog 26 #[.pointer (some ⟨p,0,none⟩),.agg #[.int .i64 5,.int .i64 ms,.int .i64 md,.int .i64 mp,.int .i64 (j : Int),.int .i64 mv]] w (RTook R k p tag w (freedM P ⟨5,ms,md,mp,(j : Int),mv⟩ j it)) := by
 have HJ := Lib.hid hj
 clear hj
 have H := Lib.hid h
 have HV := Lib.hid hv
 have HW := Lib.hid hW
 have hd := hv.dst
 have hpr := hv.prop.1
 simp only at hd hpr
 subst hd
 have HPR := Lib.hid hpr
 have hk0 := h.k0
 clear h hv hW hpr
 go_enter Try.func26,Try.ntmps26
 go_upto_region 1 with fail
 obtain ⟨w1,hw1⟩ : ∃ x,x = (w.alloc (.cells #[.int .i64 5,.int .i64 ms,.int .i64 P.no,.int .i64 mp,.int .i64 (j : Int),.int .i64 mv] 49)).alloc (.cells #[.slice none 0 0,.slice none 0 0] 41) := ⟨_,rfl⟩
 rw [← hw1]
 obtain ⟨b,hb⟩ : ∃ x,x = w.heap.size := ⟨_,rfl⟩
 obtain ⟨b1,hb1⟩ : ∃ x,x = w.heap.size + 1 := ⟨_,rfl⟩
 rw [← hb1,← hb]
 have hwb : w.heap.size ≤ b := by omega
 have hbb : b < b1 := by omega
 have HF1 : Hid (Fr (fun _ => False) tag tag w w1) := Lib.hid (by rw [hw1]; exact ((Fr.refl hok).al _).al _)
 have HM1 : Hid (w1.heap[b]? = some (.cells #[.int .i64 5,.int .i64 ms,.int .i64 P.no,.int .i64 mp,.int .i64 (j : Int),.int .i64 mv] 49 (0,0))) := Lib.hid (by rw [hw1,hb]; exact heap_alloc_lt (heap_alloc_at _ _) _)
 have HZ1 : Hid (w1.heap[b1]? = some (.cells #[.slice none 0 0,.slice none 0 0] 41 (0,0))) := Lib.hid (by rw [hw1,hb1]; exact heap_alloc_at1 _ _ _)
 have HTB : Hid ((tag b).1 = 0 ∧ (tag b1).1 = 0) := Lib.hid ⟨tag_new hok (by omega),tag_new hok (by omega)⟩
 have HP1 := Lib.hid (H.out.frF HF1.out)
 have hok1 := HF1.out.dom
 clear hw1 hb hb1
 have m0 : w1.cell? ⟨b,0,none⟩ = some (.int .i64 5) := cell_of HM1.out 0
 have m1 : w1.cell? ⟨b,1,none⟩ = some (.int .i64 ms) := cell_of HM1.out 1
 have m2 : w1.cell? ⟨b,2,none⟩ = some (.int .i64 P.no) := cell_of HM1.out 2
 have m3 : w1.cell? ⟨b,3,none⟩ = some (.int .i64 mp) := cell_of HM1.out 3
 have m4 : w1.cell? ⟨b,4,none⟩ = some (.int .i64 (j : Int)) := cell_of HM1.out 4
 have m5 : w1.cell? ⟨b,5,none⟩ = some (.int .i64 mv) := cell_of HM1.out 5
 go_upto_region 4 with (
  go_at_call 81
  refine (risPost_agg HP1.out hok1 HV.out).mono ?_
  rintro e w2 ⟨rfl,hF2⟩
  have HF2 := Lib.hid (HF1.out.trans hF2)
  have HM2 := Lib.hid (hF2.heap HM1.out (fun x => x))
  have HZ2 := Lib.hid (hF2.heap HZ1.out (fun x => x))
  have HP2 := Lib.hid (HP1.out.frF hF2)
  have hok2 := hF2.dom
  clear hF2)
 clear m0 m1 m2 m3 m4 m5
 have m0 : w2.cell? ⟨b,0,none⟩ = some (.int .i64 5) := cell_of HM2.out 0
 have m1 : w2.cell? ⟨b,1,none⟩ = some (.int .i64 ms) := cell_of HM2.out 1
 have m2 : w2.cell? ⟨b,2,none⟩ = some (.int .i64 P.no) := cell_of HM2.out 2
 have m3 : w2.cell? ⟨b,3,none⟩ = some (.int .i64 mp) := cell_of HM2.out 3
 have m4 : w2.cell? ⟨b,4,none⟩ = some (.int .i64 (j : Int)) := cell_of HM2.out 4
 have m5 : w2.cell? ⟨b,5,none⟩ = some (.int .i64 mv) := cell_of HM2.out 5
 go_wp2_with (fail)
 refine (rfreed_agg HP2.out hok2 hR hRk HJ.out rfl rfl HPR.out (HW.out.it _ _ HJ.out) HW.out.out HW.out.came).mono ?_
 rintro e w3 ⟨ov,cv,tag3,rfl,h1,h2,h3,h4⟩
 obtain ⟨OA,ocap,hov,_,_⟩ := h1.form
 obtain ⟨VA,vcap,hcv,_,_⟩ := h2.form
 generalize hM : (freedM P ⟨5,ms,P.no,mp,(j : Int),mv⟩ j it) = M at h1 h2 h3 hov hcv ⊢
 subst hov hcv
 have hZ3 := h4.heap HZ2.out (by
  intro e
  rcases e with e | e
  ·exact hk0 (by rw [← e,HTB.out.2])
  ·exact hR (by rw [← e,HTB.out.2]))
 have r0 : w3.cell? ⟨b1,0,none⟩ = some (.slice none 0 0) := cell_of hZ3 0
 have r1 : w3.cell? ⟨b1,1,none⟩ = some (.slice none 0 0) := cell_of hZ3 1
 have rz0 := free_of hZ3 0
 have rz1 := free_of hZ3 1
 have HZ3 := Lib.hid hZ3
 have K1 := Lib.hid h1
 have K2 := Lib.hid h2
 have K3 := Lib.hid h3
 have K4 := Lib.hid h4
 have HMM := Lib.hid hM
 clear h1 h2 h3 h4 hZ3 hM
 go_wp2_with fail
 clear m0 m1 m2 m3 m4 m5
 obtain ⟨wz,hwz⟩ : ∃ x,x = (w3.setCell ⟨b1,0,none⟩ (.slice OA M.out.length ocap)).setCell ⟨b1,1,none⟩ (.slice VA M.came.length vcap) := ⟨_,rfl⟩
 rw [← hwz]
 have hzz : wz.heap[b1]? = some (.cells #[.slice OA M.out.length ocap,.slice VA M.came.length vcap] 41 (0,0)) := by
  rw [hwz,Go.Ng.heap_setCell_same (Go.Ng.heap_setCell_same HZ3.out 0 _) 1 _]
  rfl
 have rr0 : wz.cell? ⟨b1,0,none⟩ = some (.slice OA M.out.length ocap) := cell_of hzz 0
 have rr1 : wz.cell? ⟨b1,1,none⟩ = some (.slice VA M.came.length vcap) := cell_of hzz 1
 refine bodyPost_ret (v:=.tuple #[.agg #[.slice OA M.out.length ocap,.slice VA M.came.length vcap],.int .i64 0]) (by simp [results,Try.results26,go_sem,rr0,rr1]) rfl ?_
 have htz : (tag3 b1).1 = 0 := by rw [K4.out.same b1 (lt_of_heap HZ2.out)]; exact HTB.out.2
 have hLz : Fr (fun t => t.1 = 0) tag3 tag3 w3 wz := by rw [hwz]; exact ((Fr.refl K4.out.dom).sc b1 _ _ htz).sc b1 _ _ htz
 rw [HMM.out]
 exact ⟨_,_,tag3,rfl,K1.out.fr hLz hR,K2.out.fr hLz hR,K3.out.fr hLz (fun r i => hk0),by rw [hwz]; exact (((HF2.out.up.trans K4.out).scn (by omega) _ _).scn (by omega) _ _)⟩
theorem rtake_ok (m : Post) (h : RPRep tag k w p P) (hok : TagOk tag w) (hR : R ≠ 0) (hRk : R ≠ k) (hv : Valid P m) (hW : RWell P)
  (hpr : m.kind = 2 ∨ m.kind = 3 → ∃ x,find P.props m.prop = some x) (hit : m.kind ≠ 2 → m.kind ≠ 3 → ∃ it,P.items[m.item.toNat]? = some (some it)) :
  Calls Try.prog 26 #[.pointer (some ⟨p,0,none⟩),Post.val m] w (RTook R k p tag w (takeM P m)) := by
 have hkind := hv.kind
 have hi0 := hv.item.1
 obtain ⟨mk,ms,md,mp,mi,mv⟩ := m
 simp only at hkind hpr hit hi0
 obtain ⟨j,rfl⟩ := Int.eq_ofNat_of_zero_le hi0
 simp only [Int.toNat_natCast] at hit
 rcases (show mk = 1 ∨ mk = 2 ∨ mk = 3 ∨ mk = 4 ∨ mk = 5 by omega) with rfl | rfl | rfl | rfl | rfl
 ·obtain ⟨it,hj⟩ := hit (by decide) (by decide)
  have e : takeM P ⟨1,ms,md,mp,(j : Int),mv⟩ = askedM P ⟨1,ms,md,mp,(j : Int),mv⟩ j it := by
   simp only [takeM,Int.toNat_natCast,item_some hj]; rfl
  rw [e]; exact rtake1 hj h hok hR hRk hv hW
 ·obtain ⟨x,hx⟩ := hpr (.inl rfl)
  exact rtake2 hx h hok hR hRk hv hW
 ·obtain ⟨x,hx⟩ := hpr (.inr rfl)
  exact rtake3 hx h hok hR hRk hv hW
 ·obtain ⟨it,hj⟩ := hit (by decide) (by decide)
  have e : takeM P ⟨4,ms,md,mp,(j : Int),mv⟩ = committedM P ⟨4,ms,md,mp,(j : Int),mv⟩ j it := by
   simp only [takeM,Int.toNat_natCast,item_some hj]; rfl
  rw [e]; exact rtake4 hj h hok hR hRk hv hW
 ·obtain ⟨it,hj⟩ := hit (by decide) (by decide)
  have e : takeM P ⟨5,ms,md,mp,(j : Int),mv⟩ = freedM P ⟨5,ms,md,mp,(j : Int),mv⟩ j it := by
   simp only [takeM,Int.toNat_natCast,item_some hj]; rfl
  rw [e]; exact rtake5 hj h hok hR hRk hv hW
end
end Go.Proofs.Ytclkokkppgchfaa
