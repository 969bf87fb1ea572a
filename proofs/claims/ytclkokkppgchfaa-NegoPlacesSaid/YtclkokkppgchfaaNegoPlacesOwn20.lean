/- A part of the proof: texts of this session, joined. -/
import Derived.Test.YtclkokkppgchfaaNegoPlacesOwn15
import Derived.Test.YtclkokkppgchfaaNegoPlacesOwn19
import Derived.Test.YtclkokkppgchfaaNegoPlacesOwn18
import Derived.Test.YtclkokkppgchfaaNegoPlacesOwn16
import Derived.Test.YtclkokkppgchfaaPart5
import Derived.Test.YtclkokkppgchfaaPart6
import Derived.Test.YtclkokkppgchfaaNegoPlacesOwn11
import Derived.Test.YtclkokkppgchfaaShort
set_option linter.unusedSimpArgs false
set_option linter.unusedVariables false
set_option maxHeartbeats 6400000
set_option maxRecDepth 100000
namespace Go.Proofs.Ytclkokkppgchfaa
open Go.RowKit Go.Ng Go.Proofs.YtclkokkppgchfaaW.PrintLast
section
variable {tag : Nat → Tag} {k p : Nat} {P : PlaceM} {w : World} {mk ms md mp mi mv : Int}
theorem rpost_at (k1 : 1 ≤ mk) (k2 : mk ≤ 5) (hd : md = P.no) (s1 : 0 ≤ ms) (s2 : ms < 32) (j1 : 0 ≤ mi) (j2 : mi < P.sites.length) (v1 : 0 ≤ mv) (v2 : mk ≠ 1 → mv = 0) (p1 : 0 ≤ mp) (p2 : mp ≤ 2147483647)
  (hs : P.site mi ≠ if mk = 2 ∨ mk = 3 then ms else md) (h : RPRep tag k w p P) (hok : TagOk tag w) :
  Calls Try.prog 81 #[.pointer (some ⟨p,0,none⟩),.agg #[.int .i64 mk,.int .i64 ms,.int .i64 md,.int .i64 mp,.int .i64 mi,.int .i64 mv]] w fun e w' => e = .returned (.bool false) ∧ Fr (fun _ => False) tag tag w w' := by
 obtain ⟨j,rfl⟩ := Int.eq_ofNat_of_zero_le j1
 obtain ⟨av,iv,pv,h1,h2,_,_⟩ := h.cells
 have hjl : j < P.sites.length := by omega
 obtain ⟨b,cap,rfl,hl1,hl2,hsc⟩ := PRep.site_cell h2 hjl
 unfold maxLen at hl2
 have c0 : w.cell? ⟨p,0,none⟩ = some (.int .i64 P.no) := cell_of h1 0
 have c1 : w.cell? ⟨p,1,none⟩ = some (.slice (some ⟨b,0,none⟩) P.sites.length cap) := cell_of h1 1
 have hpl := lt_of_heap h1
 have hbl := World.block_lt_of_cell? w _ hsc
 clear h h1 h2
 rw [← hd] at c0
 generalize P.site (j : Int) = s at hs hsc
 clear hd
 rcases (show (mk = 1 ∧ mv = 0) ∨ (mk = 1 ∧ 0 < mv) ∨ mk = 2 ∨ mk = 3 ∨ mk = 4 ∨ mk = 5 by omega) with ⟨rfl,rfl⟩ | ⟨rfl,hmv⟩ | rfl | rfl | rfl | rfl <;> (
  simp at hs v2
  replace hs := beq_eq_false_iff_ne.2 hs
  try subst v2
  go_enter Try.func81,Try.ntmps81
  go_wp2_with fail
  go_quiet (fail)
  go_wp2_with fail
  go_quiet (fail)
  go_wp2
  go_ret
  exact ⟨rfl,(((Fr.refl hok).al _).dN _).dN _⟩)
end
section
variable {tag : Nat → Tag} {k p : Nat} {P : PlaceM} {w : World} {mk ms md mp mi mv : Int}
theorem rpost_no (m : Post) (hP : RPRep tag k w p P) (hok : TagOk tag w) (hv : ¬ Valid P m) :
  Calls Try.prog 81 #[.pointer (some ⟨p,0,none⟩),Post.val m] w fun e w' => e = .returned (.bool false) ∧ Fr (fun _ => False) tag tag w w' := by
 obtain ⟨mk,ms,md,mp,mi,mv⟩ := m
 show Calls Try.prog 81 #[.pointer (some ⟨p,0,none⟩),.agg #[.int .i64 mk,.int .i64 ms,.int .i64 md,.int .i64 mp,.int .i64 mi,.int .i64 mv]] w _
 by_cases hb : (decide (mk < 1) || decide (5 < mk) || (md != P.no) || decide (mp < 0) || decide (2147483647 < mp) || decide (mi < 0) || decide ((P.sites.length : Int) ≤ mi) || decide (mv < 0) || (decide (0 < mv) && (mk != 1)) || decide (ms < 0) || decide (32 ≤ ms)) = true
 ·exact rpost_fail hb hP hok
 ·simp only [Bool.or_eq_true,Bool.and_eq_true,decide_eq_true_eq,bne_iff_ne,not_or,not_and,Int.not_lt,Int.not_le,ne_eq,Decidable.not_not] at hb
  obtain ⟨⟨⟨⟨⟨⟨⟨⟨⟨⟨a1,a2⟩,a3⟩,a9⟩,a10⟩,a5⟩,a6⟩,a7⟩,a8⟩,a12⟩,a13⟩ := hb
  have a8' : mk ≠ 1 → mv = 0 := fun h => by
   by_cases h0 : 0 < mv
   ·exact absurd (a8 h0) h
   ·omega
  refine rpost_at (by omega) (by omega) a3 a12 a13 (by omega) (by omega) (by omega) a8' (by omega) (by omega) (fun h => ?_) hP hok
  exact hv ⟨⟨by simp; omega,by simp; omega⟩,a3,⟨a12,a13⟩,⟨by simp; omega,by simp; omega⟩,⟨by simp; omega,fun h => by simp at h ⊢; omega⟩,⟨by simp; omega,by simp; omega⟩,h⟩
end
theorem rnil24 (w : World) (n : Int) : Calls Try.prog 24 #[.pointer none,.int .i64 n] w fun e w' => e = .returned (.tuple #[.slice none 0 0,.int .i64 271]) ∧ w' = w := by
 go_enter Try.func24,Try.ntmps24
 go_wp2_with fail
 go_ret2
 exact ⟨rfl,rfl⟩
theorem rnil92 (w : World) (n : Int) : Calls Try.prog 92 #[.pointer none,.int .i64 n] w fun e w' => e = .returned (.tuple #[.int .i64 0,.int .i64 271]) ∧ w' = w := by
 go_enter Try.func92,Try.ntmps92
 go_wp2_with fail
 go_ret2
 exact ⟨rfl,rfl⟩
section
variable {tag : Nat → Tag} {k p : Nat} {P : PlaceM} {w : World} {mk ms md mp mi mv : Int}
theorem rnil26 (hok : TagOk tag w) :
  Calls Try.prog 26 #[.pointer none,.agg #[.int .i64 mk,.int .i64 ms,.int .i64 md,.int .i64 mp,.int .i64 mi,.int .i64 mv]] w fun e w' => e = .returned (.tuple #[.agg #[.slice none 0 0,.slice none 0 0],.int .i64 271]) ∧ Fr (fun _ => False) tag tag w w' := by
 go_enter Try.func26,Try.ntmps26
 go_upto_region 1 with fail
 obtain ⟨w1,hw1⟩ : ∃ yy,yy = (w.alloc (.cells #[.int .i64 mk,.int .i64 ms,.int .i64 md,.int .i64 mp,.int .i64 mi,.int .i64 mv] 49)).alloc (.cells #[.slice none 0 0,.slice none 0 0] 41) := ⟨_,rfl⟩
 rw [← hw1]
 obtain ⟨b1,hb1⟩ : ∃ yy,yy = w.heap.size + 1 := ⟨_,rfl⟩
 obtain ⟨b,hb⟩ : ∃ yy,yy = w.heap.size := ⟨_,rfl⟩
 rw [← hb1,← hb]
 have hwb : w.heap.size ≤ b1 := by omega
 have HF1 : Hid (Fr (fun _ => False) tag tag w w1) := Lib.hid (by rw [hw1]; exact ((Fr.refl hok).al _).al _)
 have HZ1 : Hid (w1.heap[b1]? = some (.cells #[.slice none 0 0,.slice none 0 0] 41 (0,0))) := Lib.hid (by rw [hw1,hb1]; exact heap_alloc_at1 _ _ _)
 have HM1 : Hid (w1.heap[b]? = some (.cells #[.int .i64 mk,.int .i64 ms,.int .i64 md,.int .i64 mp,.int .i64 mi,.int .i64 mv] 49 (0,0))) := Lib.hid (by rw [hw1,hb]; exact heap_alloc_lt (heap_alloc_at _ _) _)
 clear hw1 hb1 hb
 have hok1 := HF1.out.dom
 have r0 : w1.cell? ⟨b1,0,none⟩ = some (.slice none 0 0) := cell_of HZ1.out 0
 have r1 : w1.cell? ⟨b1,1,none⟩ = some (.slice none 0 0) := cell_of HZ1.out 1
 have rz0 := free_of HZ1.out 0
 have rz1 := free_of HZ1.out 1
 go_wp2_with fail
 obtain ⟨wz,hwz⟩ : ∃ yy,yy = (w1.setCell ⟨b1,0,none⟩ (.slice none 0 0)).setCell ⟨b1,1,none⟩ (.slice none 0 0) := ⟨_,rfl⟩
 rw [← hwz]
 have hzz : wz.heap[b1]? = some (.cells #[.slice none 0 0,.slice none 0 0] 41 (0,0)) := by
  rw [hwz,Go.Ng.heap_setCell_same (Go.Ng.heap_setCell_same HZ1.out 0 _) 1 _]
  rfl
 have rr0 : wz.cell? ⟨b1,0,none⟩ = some (.slice none 0 0) := cell_of hzz 0
 have rr1 : wz.cell? ⟨b1,1,none⟩ = some (.slice none 0 0) := cell_of hzz 1
 refine bodyPost_ret (v:=.tuple #[.agg #[.slice none 0 0,.slice none 0 0],.int .i64 271]) (by simp [results,Try.results26,go_sem,rr0,rr1]) rfl ?_
 exact ⟨rfl,by rw [hwz]; exact (HF1.out.scn hwb _ _).scn hwb _ _⟩
theorem rnil21 (n : Int) (v : Value) (hok : TagOk tag w) :
  Calls Try.prog 21 #[.pointer none,.int .i64 n,v] w fun e w' => e = .returned (.tuple #[.agg #[.slice none 0 0,.slice none 0 0],.int .i64 271]) ∧ Fr (fun _ => False) tag tag w w' := by
 go_enter Try.func21,Try.ntmps21
 go_upto_region 1 with fail
 obtain ⟨w1,hw1⟩ : ∃ yy,yy = w.alloc (.cells #[.slice none 0 0,.slice none 0 0] 41) := ⟨_,rfl⟩
 rw [← hw1]
 obtain ⟨b1,hb1⟩ : ∃ yy,yy = w.heap.size := ⟨_,rfl⟩
 rw [← hb1]
 have hwb : w.heap.size ≤ b1 := by omega
 have HF1 : Hid (Fr (fun _ => False) tag tag w w1) := Lib.hid (by rw [hw1]; exact (Fr.refl hok).al _)
 have HZ1 : Hid (w1.heap[b1]? = some (.cells #[.slice none 0 0,.slice none 0 0] 41 (0,0))) := Lib.hid (by rw [hw1,hb1]; exact heap_alloc_at _ _)
 clear hw1 hb1
 have hok1 := HF1.out.dom
 have r0 : w1.cell? ⟨b1,0,none⟩ = some (.slice none 0 0) := cell_of HZ1.out 0
 have r1 : w1.cell? ⟨b1,1,none⟩ = some (.slice none 0 0) := cell_of HZ1.out 1
 have rz0 := free_of HZ1.out 0
 have rz1 := free_of HZ1.out 1
 go_wp2_with fail
 obtain ⟨wz,hwz⟩ : ∃ yy,yy = (w1.setCell ⟨b1,0,none⟩ (.slice none 0 0)).setCell ⟨b1,1,none⟩ (.slice none 0 0) := ⟨_,rfl⟩
 rw [← hwz]
 have hzz : wz.heap[b1]? = some (.cells #[.slice none 0 0,.slice none 0 0] 41 (0,0)) := by
  rw [hwz,Go.Ng.heap_setCell_same (Go.Ng.heap_setCell_same HZ1.out 0 _) 1 _]
  rfl
 have rr0 : wz.cell? ⟨b1,0,none⟩ = some (.slice none 0 0) := cell_of hzz 0
 have rr1 : wz.cell? ⟨b1,1,none⟩ = some (.slice none 0 0) := cell_of hzz 1
 refine bodyPost_ret (v:=.tuple #[.agg #[.slice none 0 0,.slice none 0 0],.int .i64 271]) (by simp [results,Try.results21,go_sem,rr0,rr1]) rfl ?_
 exact ⟨rfl,by rw [hwz]; exact (HF1.out.scn hwb _ _).scn hwb _ _⟩
theorem rpost_no_agg (hP : RPRep tag k w p P) (hok : TagOk tag w) (hv : ¬ Valid P ⟨mk,ms,md,mp,mi,mv⟩) :
  Calls Try.prog 81 #[.pointer (some ⟨p,0,none⟩),.agg #[.int .i64 mk,.int .i64 ms,.int .i64 md,.int .i64 mp,.int .i64 mi,.int .i64 mv]] w fun e w' => e = .returned (.bool false) ∧ Fr (fun _ => False) tag tag w w' := rpost_no ⟨mk,ms,md,mp,mi,mv⟩ hP hok hv
theorem rtake_bad (hP : RPRep tag k w p P) (hok : TagOk tag w) (hv : ¬ Valid P ⟨mk,ms,md,mp,mi,mv⟩) :
  Calls Try.prog 26 #[.pointer (some ⟨p,0,none⟩),.agg #[.int .i64 mk,.int .i64 ms,.int .i64 md,.int .i64 mp,.int .i64 mi,.int .i64 mv]] w fun e w' => e = .returned (.tuple #[.agg #[.slice none 0 0,.slice none 0 0],.int .i64 272]) ∧ Fr (fun _ => False) tag tag w w' := by
 have HV := Lib.hid hv
 have H := Lib.hid hP
 clear hP hv
 go_enter Try.func26,Try.ntmps26
 go_upto_region 1 with fail
 obtain ⟨w1,hw1⟩ : ∃ yy,yy = (w.alloc (.cells #[.int .i64 mk,.int .i64 ms,.int .i64 md,.int .i64 mp,.int .i64 mi,.int .i64 mv] 49)).alloc (.cells #[.slice none 0 0,.slice none 0 0] 41) := ⟨_,rfl⟩
 rw [← hw1]
 obtain ⟨b1,hb1⟩ : ∃ yy,yy = w.heap.size + 1 := ⟨_,rfl⟩
 obtain ⟨b,hb⟩ : ∃ yy,yy = w.heap.size := ⟨_,rfl⟩
 rw [← hb1,← hb]
 have hwb : w.heap.size ≤ b1 := by omega
 have HF1 : Hid (Fr (fun _ => False) tag tag w w1) := Lib.hid (by rw [hw1]; exact ((Fr.refl hok).al _).al _)
 have HZ1 : Hid (w1.heap[b1]? = some (.cells #[.slice none 0 0,.slice none 0 0] 41 (0,0))) := Lib.hid (by rw [hw1,hb1]; exact heap_alloc_at1 _ _ _)
 have HM1 : Hid (w1.heap[b]? = some (.cells #[.int .i64 mk,.int .i64 ms,.int .i64 md,.int .i64 mp,.int .i64 mi,.int .i64 mv] 49 (0,0))) := Lib.hid (by rw [hw1,hb]; exact heap_alloc_lt (heap_alloc_at _ _) _)
 clear hw1 hb1 hb
 have hok1 := HF1.out.dom
 have HP1 := Lib.hid (H.out.frF HF1.out)
 have m0 : w1.cell? ⟨b,0,none⟩ = some (.int .i64 mk) := cell_of HM1.out 0
 have m1 : w1.cell? ⟨b,1,none⟩ = some (.int .i64 ms) := cell_of HM1.out 1
 have m2 : w1.cell? ⟨b,2,none⟩ = some (.int .i64 md) := cell_of HM1.out 2
 have m3 : w1.cell? ⟨b,3,none⟩ = some (.int .i64 mp) := cell_of HM1.out 3
 have m4 : w1.cell? ⟨b,4,none⟩ = some (.int .i64 mi) := cell_of HM1.out 4
 have m5 : w1.cell? ⟨b,5,none⟩ = some (.int .i64 mv) := cell_of HM1.out 5
 go_upto_region 4 with (
  go_at_call 81
  refine (rpost_no_agg HP1.out hok1 HV.out).mono ?_
  rintro e w2 ⟨rfl,hF2⟩
  have HF2 := Lib.hid (HF1.out.trans hF2)
  have HZ2 := Lib.hid (hF2.heap HZ1.out (fun x => x))
  have HM2 := Lib.hid (hF2.heap HM1.out (fun x => x))
  have HP2 := Lib.hid (HP1.out.frF hF2)
  have hok2 := hF2.dom
  clear hF2)
 clear m0 m1 m2 m3 m4 m5
 have r0 : w2.cell? ⟨b1,0,none⟩ = some (.slice none 0 0) := cell_of HZ2.out 0
 have r1 : w2.cell? ⟨b1,1,none⟩ = some (.slice none 0 0) := cell_of HZ2.out 1
 have rz0 := free_of HZ2.out 0
 have rz1 := free_of HZ2.out 1
 go_wp2_with fail
 obtain ⟨wz,hwz⟩ : ∃ yy,yy = (w2.setCell ⟨b1,0,none⟩ (.slice none 0 0)).setCell ⟨b1,1,none⟩ (.slice none 0 0) := ⟨_,rfl⟩
 rw [← hwz]
 have hzz : wz.heap[b1]? = some (.cells #[.slice none 0 0,.slice none 0 0] 41 (0,0)) := by
  rw [hwz,Go.Ng.heap_setCell_same (Go.Ng.heap_setCell_same HZ2.out 0 _) 1 _]
  rfl
 have rr0 : wz.cell? ⟨b1,0,none⟩ = some (.slice none 0 0) := cell_of hzz 0
 have rr1 : wz.cell? ⟨b1,1,none⟩ = some (.slice none 0 0) := cell_of hzz 1
 refine bodyPost_ret (v:=.tuple #[.agg #[.slice none 0 0,.slice none 0 0],.int .i64 272]) (by simp [results,Try.results26,go_sem,rr0,rr1]) rfl ?_
 exact ⟨rfl,by rw [hwz]; exact (HF2.out.scn hwb _ _).scn hwb _ _⟩
theorem rtake_none2 (hP : RPRep tag k w p P) (hok : TagOk tag w) (hv : Valid P ⟨2,ms,md,mp,mi,mv⟩) (hf : find P.props mp = none) :
  Calls Try.prog 26 #[.pointer (some ⟨p,0,none⟩),.agg #[.int .i64 2,.int .i64 ms,.int .i64 md,.int .i64 mp,.int .i64 mi,.int .i64 mv]] w fun e w' => e = .returned (.tuple #[.agg #[.slice none 0 0,.slice none 0 0],.int .i64 3]) ∧ Fr (fun _ => False) tag tag w w' := by
 have HV := Lib.hid hv
 have H := Lib.hid hP
 clear hP hv
 have HFD := Lib.hid (idxR_of_none hf)
 clear hf
 go_enter Try.func26,Try.ntmps26
 go_upto_region 1 with fail
 obtain ⟨w1,hw1⟩ : ∃ yy,yy = (w.alloc (.cells #[.int .i64 2,.int .i64 ms,.int .i64 md,.int .i64 mp,.int .i64 mi,.int .i64 mv] 49)).alloc (.cells #[.slice none 0 0,.slice none 0 0] 41) := ⟨_,rfl⟩
 rw [← hw1]
 obtain ⟨b1,hb1⟩ : ∃ yy,yy = w.heap.size + 1 := ⟨_,rfl⟩
 obtain ⟨b,hb⟩ : ∃ yy,yy = w.heap.size := ⟨_,rfl⟩
 rw [← hb1,← hb]
 have hwb : w.heap.size ≤ b1 := by omega
 have HF1 : Hid (Fr (fun _ => False) tag tag w w1) := Lib.hid (by rw [hw1]; exact ((Fr.refl hok).al _).al _)
 have HZ1 : Hid (w1.heap[b1]? = some (.cells #[.slice none 0 0,.slice none 0 0] 41 (0,0))) := Lib.hid (by rw [hw1,hb1]; exact heap_alloc_at1 _ _ _)
 have HM1 : Hid (w1.heap[b]? = some (.cells #[.int .i64 2,.int .i64 ms,.int .i64 md,.int .i64 mp,.int .i64 mi,.int .i64 mv] 49 (0,0))) := Lib.hid (by rw [hw1,hb]; exact heap_alloc_lt (heap_alloc_at _ _) _)
 clear hw1 hb1 hb
 have hok1 := HF1.out.dom
 have HP1 := Lib.hid (H.out.frF HF1.out)
 have m0 : w1.cell? ⟨b,0,none⟩ = some (.int .i64 2) := cell_of HM1.out 0
 have m1 : w1.cell? ⟨b,1,none⟩ = some (.int .i64 ms) := cell_of HM1.out 1
 have m2 : w1.cell? ⟨b,2,none⟩ = some (.int .i64 md) := cell_of HM1.out 2
 have m3 : w1.cell? ⟨b,3,none⟩ = some (.int .i64 mp) := cell_of HM1.out 3
 have m4 : w1.cell? ⟨b,4,none⟩ = some (.int .i64 mi) := cell_of HM1.out 4
 have m5 : w1.cell? ⟨b,5,none⟩ = some (.int .i64 mv) := cell_of HM1.out 5
 go_upto_region 4 with (
  go_at_call 81
  refine (risPost_agg HP1.out hok1 HV.out).mono ?_
  rintro e w2 ⟨rfl,hF2⟩
  have HF2 := Lib.hid (HF1.out.trans hF2)
  have HZ2 := Lib.hid (hF2.heap HZ1.out (fun x => x))
  have HM2 := Lib.hid (hF2.heap HM1.out (fun x => x))
  have HP2 := Lib.hid (HP1.out.frF hF2)
  have hok2 := hF2.dom
  clear hF2)
 clear m0 m1 m2 m3 m4 m5
 have r0 : w2.cell? ⟨b1,0,none⟩ = some (.slice none 0 0) := cell_of HZ2.out 0
 have r1 : w2.cell? ⟨b1,1,none⟩ = some (.slice none 0 0) := cell_of HZ2.out 1
 have rz0 := free_of HZ2.out 0
 have rz1 := free_of HZ2.out 1
 have m0 : w2.cell? ⟨b,0,none⟩ = some (.int .i64 2) := cell_of HM2.out 0
 have m1 : w2.cell? ⟨b,1,none⟩ = some (.int .i64 ms) := cell_of HM2.out 1
 have m2 : w2.cell? ⟨b,2,none⟩ = some (.int .i64 md) := cell_of HM2.out 2
 have m3 : w2.cell? ⟨b,3,none⟩ = some (.int .i64 mp) := cell_of HM2.out 3
 have m4 : w2.cell? ⟨b,4,none⟩ = some (.int .i64 mi) := cell_of HM2.out 4
 have m5 : w2.cell? ⟨b,5,none⟩ = some (.int .i64 mv) := cell_of HM2.out 5
 go_wp2_with (
  go_at_call 74
  refine (rfind_no mp HFD.out HP2.out).mono ?_
  rintro e w3 ⟨rfl,hw⟩
  replace hw := hw.symm
  subst hw)
 obtain ⟨wz,hwz⟩ : ∃ yy,yy = (w2.setCell ⟨b1,0,none⟩ (.slice none 0 0)).setCell ⟨b1,1,none⟩ (.slice none 0 0) := ⟨_,rfl⟩
 rw [← hwz]
 have hzz : wz.heap[b1]? = some (.cells #[.slice none 0 0,.slice none 0 0] 41 (0,0)) := by
  rw [hwz,Go.Ng.heap_setCell_same (Go.Ng.heap_setCell_same HZ2.out 0 _) 1 _]
  rfl
 have rr0 : wz.cell? ⟨b1,0,none⟩ = some (.slice none 0 0) := cell_of hzz 0
 have rr1 : wz.cell? ⟨b1,1,none⟩ = some (.slice none 0 0) := cell_of hzz 1
 refine bodyPost_ret (v:=.tuple #[.agg #[.slice none 0 0,.slice none 0 0],.int .i64 3]) (by simp [results,Try.results26,go_sem,rr0,rr1]) rfl ?_
 exact ⟨rfl,by rw [hwz]; exact (HF2.out.scn hwb _ _).scn hwb _ _⟩
theorem rtake_none3 (hP : RPRep tag k w p P) (hok : TagOk tag w) (hv : Valid P ⟨3,ms,md,mp,mi,mv⟩) (hf : find P.props mp = none) :
  Calls Try.prog 26 #[.pointer (some ⟨p,0,none⟩),.agg #[.int .i64 3,.int .i64 ms,.int .i64 md,.int .i64 mp,.int .i64 mi,.int .i64 mv]] w fun e w' => e = .returned (.tuple #[.agg #[.slice none 0 0,.slice none 0 0],.int .i64 3]) ∧ Fr (fun _ => False) tag tag w w' := by
 have HV := Lib.hid hv
 have H := Lib.hid hP
 clear hP hv
 have HFD := Lib.hid (idxR_of_none hf)
 clear hf
 go_enter Try.func26,Try.ntmps26
 go_upto_region 1 with fail
 obtain ⟨w1,hw1⟩ : ∃ yy,yy = (w.alloc (.cells #[.int .i64 3,.int .i64 ms,.int .i64 md,.int .i64 mp,.int .i64 mi,.int .i64 mv] 49)).alloc (.cells #[.slice none 0 0,.slice none 0 0] 41) := ⟨_,rfl⟩
 rw [← hw1]
 obtain ⟨b1,hb1⟩ : ∃ yy,yy = w.heap.size + 1 := ⟨_,rfl⟩
 obtain ⟨b,hb⟩ : ∃ yy,yy = w.heap.size := ⟨_,rfl⟩
 rw [← hb1,← hb]
 have hwb : w.heap.size ≤ b1 := by omega
 have HF1 : Hid (Fr (fun _ => False) tag tag w w1) := Lib.hid (by rw [hw1]; exact ((Fr.refl hok).al _).al _)
 have HZ1 : Hid (w1.heap[b1]? = some (.cells #[.slice none 0 0,.slice none 0 0] 41 (0,0))) := Lib.hid (by rw [hw1,hb1]; exact heap_alloc_at1 _ _ _)
 have HM1 : Hid (w1.heap[b]? = some (.cells #[.int .i64 3,.int .i64 ms,.int .i64 md,.int .i64 mp,.int .i64 mi,.int .i64 mv] 49 (0,0))) := Lib.hid (by rw [hw1,hb]; exact heap_alloc_lt (heap_alloc_at _ _) _)
 clear hw1 hb1 hb
 have hok1 := HF1.out.dom
 have HP1 := Lib.hid (H.out.frF HF1.out)
 have m0 : w1.cell? ⟨b,0,none⟩ = some (.int .i64 3) := cell_of HM1.out 0
 have m1 : w1.cell? ⟨b,1,none⟩ = some (.int .i64 ms) := cell_of HM1.out 1
 have m2 : w1.cell? ⟨b,2,none⟩ = some (.int .i64 md) := cell_of HM1.out 2
 have m3 : w1.cell? ⟨b,3,none⟩ = some (.int .i64 mp) := cell_of HM1.out 3
 have m4 : w1.cell? ⟨b,4,none⟩ = some (.int .i64 mi) := cell_of HM1.out 4
 have m5 : w1.cell? ⟨b,5,none⟩ = some (.int .i64 mv) := cell_of HM1.out 5
 go_upto_region 4 with (
  go_at_call 81
  refine (risPost_agg HP1.out hok1 HV.out).mono ?_
  rintro e w2 ⟨rfl,hF2⟩
  have HF2 := Lib.hid (HF1.out.trans hF2)
  have HZ2 := Lib.hid (hF2.heap HZ1.out (fun x => x))
  have HM2 := Lib.hid (hF2.heap HM1.out (fun x => x))
  have HP2 := Lib.hid (HP1.out.frF hF2)
  have hok2 := hF2.dom
  clear hF2)
 clear m0 m1 m2 m3 m4 m5
 have r0 : w2.cell? ⟨b1,0,none⟩ = some (.slice none 0 0) := cell_of HZ2.out 0
 have r1 : w2.cell? ⟨b1,1,none⟩ = some (.slice none 0 0) := cell_of HZ2.out 1
 have rz0 := free_of HZ2.out 0
 have rz1 := free_of HZ2.out 1
 have m0 : w2.cell? ⟨b,0,none⟩ = some (.int .i64 3) := cell_of HM2.out 0
 have m1 : w2.cell? ⟨b,1,none⟩ = some (.int .i64 ms) := cell_of HM2.out 1
 have m2 : w2.cell? ⟨b,2,none⟩ = some (.int .i64 md) := cell_of HM2.out 2
 have m3 : w2.cell? ⟨b,3,none⟩ = some (.int .i64 mp) := cell_of HM2.out 3
 have m4 : w2.cell? ⟨b,4,none⟩ = some (.int .i64 mi) := cell_of HM2.out 4
 have m5 : w2.cell? ⟨b,5,none⟩ = some (.int .i64 mv) := cell_of HM2.out 5
 go_wp2_with (
  go_at_call 74
  refine (rfind_no mp HFD.out HP2.out).mono ?_
  rintro e w3 ⟨rfl,hw⟩
  replace hw := hw.symm
  subst hw)
 obtain ⟨wz,hwz⟩ : ∃ yy,yy = (w2.setCell ⟨b1,0,none⟩ (.slice none 0 0)).setCell ⟨b1,1,none⟩ (.slice none 0 0) := ⟨_,rfl⟩
 rw [← hwz]
 have hzz : wz.heap[b1]? = some (.cells #[.slice none 0 0,.slice none 0 0] 41 (0,0)) := by
  rw [hwz,Go.Ng.heap_setCell_same (Go.Ng.heap_setCell_same HZ2.out 0 _) 1 _]
  rfl
 have rr0 : wz.cell? ⟨b1,0,none⟩ = some (.slice none 0 0) := cell_of hzz 0
 have rr1 : wz.cell? ⟨b1,1,none⟩ = some (.slice none 0 0) := cell_of hzz 1
 refine bodyPost_ret (v:=.tuple #[.agg #[.slice none 0 0,.slice none 0 0],.int .i64 3]) (by simp [results,Try.results26,go_sem,rr0,rr1]) rfl ?_
 exact ⟨rfl,by rw [hwz]; exact (HF2.out.scn hwb _ _).scn hwb _ _⟩
theorem rpropose_claim (n : Int) {v : Value} (hP : RPRep tag k w p P) (hok : TagOk tag w) (hcall : ∀ w1 : World,Fr (fun _ => False) tag tag w w1 → RPRep tag k w1 p P → Calls Try.prog 73 #[.pointer (some ⟨p,0,none⟩),v] w1 fun e w2 => e = .returned (.bool false) ∧ Fr (fun _ => False) tag tag w1 w2):
  Calls Try.prog 21 #[.pointer (some ⟨p,0,none⟩),.int .i64 n,v] w fun e w' => e = .returned (.tuple #[.agg #[.slice none 0 0,.slice none 0 0],.int .i64 270]) ∧ Fr (fun _ => False) tag tag w w' := by
 have H := Lib.hid hP
 have HCL := Lib.hid hcall
 clear hP hcall
 go_enter Try.func21,Try.ntmps21
 go_upto_region 1 with fail
 obtain ⟨w1,hw1⟩ : ∃ yy,yy = w.alloc (.cells #[.slice none 0 0,.slice none 0 0] 41) := ⟨_,rfl⟩
 rw [← hw1]
 obtain ⟨b1,hb1⟩ : ∃ yy,yy = w.heap.size := ⟨_,rfl⟩
 rw [← hb1]
 have hwb : w.heap.size ≤ b1 := by omega
 have HF1 : Hid (Fr (fun _ => False) tag tag w w1) := Lib.hid (by rw [hw1]; exact (Fr.refl hok).al _)
 have HZ1 : Hid (w1.heap[b1]? = some (.cells #[.slice none 0 0,.slice none 0 0] 41 (0,0))) := Lib.hid (by rw [hw1,hb1]; exact heap_alloc_at _ _)
 clear hw1 hb1
 have hok1 := HF1.out.dom
 have HP1 := Lib.hid (H.out.frF HF1.out)
 go_upto_region 4 with (
  go_at_call 73
  refine (HCL.out w1 HF1.out HP1.out).mono ?_
  rintro e w2 ⟨rfl,hF2⟩
  have HF2 := Lib.hid (HF1.out.trans hF2)
  have HZ2 := Lib.hid (hF2.heap HZ1.out (fun x => x))
  have HP2 := Lib.hid (HP1.out.frF hF2)
  have hok2 := hF2.dom
  clear hF2)
 have r0 : w2.cell? ⟨b1,0,none⟩ = some (.slice none 0 0) := cell_of HZ2.out 0
 have r1 : w2.cell? ⟨b1,1,none⟩ = some (.slice none 0 0) := cell_of HZ2.out 1
 have rz0 := free_of HZ2.out 0
 have rz1 := free_of HZ2.out 1
 go_wp2_with (fail)
 obtain ⟨wz,hwz⟩ : ∃ yy,yy = (w2.setCell ⟨b1,0,none⟩ (.slice none 0 0)).setCell ⟨b1,1,none⟩ (.slice none 0 0) := ⟨_,rfl⟩
 rw [← hwz]
 have hzz : wz.heap[b1]? = some (.cells #[.slice none 0 0,.slice none 0 0] 41 (0,0)) := by
  rw [hwz,Go.Ng.heap_setCell_same (Go.Ng.heap_setCell_same HZ2.out 0 _) 1 _]
  rfl
 have rr0 : wz.cell? ⟨b1,0,none⟩ = some (.slice none 0 0) := cell_of hzz 0
 have rr1 : wz.cell? ⟨b1,1,none⟩ = some (.slice none 0 0) := cell_of hzz 1
 refine bodyPost_ret (v:=.tuple #[.agg #[.slice none 0 0,.slice none 0 0],.int .i64 270]) (by simp [results,Try.results21,go_sem,rr0,rr1]) rfl ?_
 exact ⟨rfl,by rw [hwz]; exact (HF2.out.scn hwb _ _).scn hwb _ _⟩
theorem rpropose_low (n : Int) (l : List Clm) {v : Value} (hP : RPRep tag k w p P) (hok : TagOk tag w) (hr : Rd 2 w v l.length (claims l)) (hcl : claimedB P.sites.length l = true) (a1 : n < 0) :
  Calls Try.prog 21 #[.pointer (some ⟨p,0,none⟩),.int .i64 n,v] w fun e w' => e = .returned (.tuple #[.agg #[.slice none 0 0,.slice none 0 0],.int .i64 1]) ∧ Fr (fun _ => False) tag tag w w' := by
 obtain ⟨VA,vcap,rfl,q1,q2⟩ := hr.slice
 unfold maxLen at q2
 have H := Lib.hid hP
 have HR := Lib.hid hr
 have HCL := Lib.hid hcl
 have i1 : decide (n < 0) = true := decide_eq_true a1
 clear a1
 clear hP hr hcl
 go_enter Try.func21,Try.ntmps21
 go_upto_region 1 with fail
 obtain ⟨w1,hw1⟩ : ∃ yy,yy = w.alloc (.cells #[.slice none 0 0,.slice none 0 0] 41) := ⟨_,rfl⟩
 rw [← hw1]
 obtain ⟨b1,hb1⟩ : ∃ yy,yy = w.heap.size := ⟨_,rfl⟩
 rw [← hb1]
 have hwb : w.heap.size ≤ b1 := by omega
 have HF1 : Hid (Fr (fun _ => False) tag tag w w1) := Lib.hid (by rw [hw1]; exact (Fr.refl hok).al _)
 have HZ1 : Hid (w1.heap[b1]? = some (.cells #[.slice none 0 0,.slice none 0 0] 41 (0,0))) := Lib.hid (by rw [hw1,hb1]; exact heap_alloc_at _ _)
 have HR1 : Hid (Rd 2 w1 (.slice VA l.length vcap) l.length (claims l)) := Lib.hid (by rw [hw1]; exact HR.out.alloc _)
 clear hw1 hb1
 have hok1 := HF1.out.dom
 have HP1 := Lib.hid (H.out.frF HF1.out)
 go_upto_region 4 with (
  go_at_call 73
  refine (rright_val l true HCL.out HP1.out HR1.out hok1).mono ?_
  rintro e w2 ⟨rfl,hF2⟩
  have HF2 := Lib.hid (HF1.out.trans hF2)
  have HZ2 := Lib.hid (hF2.heap HZ1.out (fun x => x))
  have HP2 := Lib.hid (HP1.out.frF hF2)
  have hok2 := hF2.dom
  clear hF2)
 have r0 : w2.cell? ⟨b1,0,none⟩ = some (.slice none 0 0) := cell_of HZ2.out 0
 have r1 : w2.cell? ⟨b1,1,none⟩ = some (.slice none 0 0) := cell_of HZ2.out 1
 have rz0 := free_of HZ2.out 0
 have rz1 := free_of HZ2.out 1
 go_wp2_with (fail)
 obtain ⟨wz,hwz⟩ : ∃ yy,yy = (w2.setCell ⟨b1,0,none⟩ (.slice none 0 0)).setCell ⟨b1,1,none⟩ (.slice none 0 0) := ⟨_,rfl⟩
 rw [← hwz]
 have hzz : wz.heap[b1]? = some (.cells #[.slice none 0 0,.slice none 0 0] 41 (0,0)) := by
  rw [hwz,Go.Ng.heap_setCell_same (Go.Ng.heap_setCell_same HZ2.out 0 _) 1 _]
  rfl
 have rr0 : wz.cell? ⟨b1,0,none⟩ = some (.slice none 0 0) := cell_of hzz 0
 have rr1 : wz.cell? ⟨b1,1,none⟩ = some (.slice none 0 0) := cell_of hzz 1
 refine bodyPost_ret (v:=.tuple #[.agg #[.slice none 0 0,.slice none 0 0],.int .i64 1]) (by simp [results,Try.results21,go_sem,rr0,rr1]) rfl ?_
 exact ⟨rfl,by rw [hwz]; exact (HF2.out.scn hwb _ _).scn hwb _ _⟩
theorem rpropose_high (n : Int) (l : List Clm) {v : Value} (hP : RPRep tag k w p P) (hok : TagOk tag w) (hr : Rd 2 w v l.length (claims l)) (hcl : claimedB P.sites.length l = true) (a1 : ¬ n < 0) (a2 : 2147483647 < n) :
  Calls Try.prog 21 #[.pointer (some ⟨p,0,none⟩),.int .i64 n,v] w fun e w' => e = .returned (.tuple #[.agg #[.slice none 0 0,.slice none 0 0],.int .i64 1]) ∧ Fr (fun _ => False) tag tag w w' := by
 obtain ⟨VA,vcap,rfl,q1,q2⟩ := hr.slice
 unfold maxLen at q2
 have H := Lib.hid hP
 have HR := Lib.hid hr
 have HCL := Lib.hid hcl
 have i1 : decide (n < 0) = false := decide_eq_false a1
 have i2 : decide (2147483647 < n) = true := decide_eq_true a2
 clear a1 a2
 clear hP hr hcl
 go_enter Try.func21,Try.ntmps21
 go_upto_region 1 with fail
 obtain ⟨w1,hw1⟩ : ∃ yy,yy = w.alloc (.cells #[.slice none 0 0,.slice none 0 0] 41) := ⟨_,rfl⟩
 rw [← hw1]
 obtain ⟨b1,hb1⟩ : ∃ yy,yy = w.heap.size := ⟨_,rfl⟩
 rw [← hb1]
 have hwb : w.heap.size ≤ b1 := by omega
 have HF1 : Hid (Fr (fun _ => False) tag tag w w1) := Lib.hid (by rw [hw1]; exact (Fr.refl hok).al _)
 have HZ1 : Hid (w1.heap[b1]? = some (.cells #[.slice none 0 0,.slice none 0 0] 41 (0,0))) := Lib.hid (by rw [hw1,hb1]; exact heap_alloc_at _ _)
 have HR1 : Hid (Rd 2 w1 (.slice VA l.length vcap) l.length (claims l)) := Lib.hid (by rw [hw1]; exact HR.out.alloc _)
 clear hw1 hb1
 have hok1 := HF1.out.dom
 have HP1 := Lib.hid (H.out.frF HF1.out)
 go_upto_region 4 with (
  go_at_call 73
  refine (rright_val l true HCL.out HP1.out HR1.out hok1).mono ?_
  rintro e w2 ⟨rfl,hF2⟩
  have HF2 := Lib.hid (HF1.out.trans hF2)
  have HZ2 := Lib.hid (hF2.heap HZ1.out (fun x => x))
  have HP2 := Lib.hid (HP1.out.frF hF2)
  have hok2 := hF2.dom
  clear hF2)
 have r0 : w2.cell? ⟨b1,0,none⟩ = some (.slice none 0 0) := cell_of HZ2.out 0
 have r1 : w2.cell? ⟨b1,1,none⟩ = some (.slice none 0 0) := cell_of HZ2.out 1
 have rz0 := free_of HZ2.out 0
 have rz1 := free_of HZ2.out 1
 go_wp2_with (fail)
 obtain ⟨wz,hwz⟩ : ∃ yy,yy = (w2.setCell ⟨b1,0,none⟩ (.slice none 0 0)).setCell ⟨b1,1,none⟩ (.slice none 0 0) := ⟨_,rfl⟩
 rw [← hwz]
 have hzz : wz.heap[b1]? = some (.cells #[.slice none 0 0,.slice none 0 0] 41 (0,0)) := by
  rw [hwz,Go.Ng.heap_setCell_same (Go.Ng.heap_setCell_same HZ2.out 0 _) 1 _]
  rfl
 have rr0 : wz.cell? ⟨b1,0,none⟩ = some (.slice none 0 0) := cell_of hzz 0
 have rr1 : wz.cell? ⟨b1,1,none⟩ = some (.slice none 0 0) := cell_of hzz 1
 refine bodyPost_ret (v:=.tuple #[.agg #[.slice none 0 0,.slice none 0 0],.int .i64 1]) (by simp [results,Try.results21,go_sem,rr0,rr1]) rfl ?_
 exact ⟨rfl,by rw [hwz]; exact (HF2.out.scn hwb _ _).scn hwb _ _⟩
theorem rpropose_dup (n : Int) (l : List Clm) {v : Value} (hP : RPRep tag k w p P) (hok : TagOk tag w) (hr : Rd 2 w v l.length (claims l)) (hcl : claimedB P.sites.length l = true) (a1 : ¬ n < 0) (a2 : ¬ 2147483647 < n) {x : PropM} (hf : find P.props n = some x) :
  Calls Try.prog 21 #[.pointer (some ⟨p,0,none⟩),.int .i64 n,v] w fun e w' => e = .returned (.tuple #[.agg #[.slice none 0 0,.slice none 0 0],.int .i64 1]) ∧ Fr (fun _ => False) tag tag w w' := by
 obtain ⟨VA,vcap,rfl,q1,q2⟩ := hr.slice
 unfold maxLen at q2
 have H := Lib.hid hP
 have HR := Lib.hid hr
 have HCL := Lib.hid hcl
 have i1 : decide (n < 0) = false := decide_eq_false a1
 have i2 : decide (2147483647 < n) = false := decide_eq_false a2
 obtain ⟨i,hi,hix⟩ := find_idx hf
 have HI := Lib.hid hix
 have i3 : (0 : Int) ≤ (i : Int) := by omega
 clear a1 a2 hf hi hix
 clear hP hr hcl
 go_enter Try.func21,Try.ntmps21
 go_upto_region 1 with fail
 obtain ⟨w1,hw1⟩ : ∃ yy,yy = w.alloc (.cells #[.slice none 0 0,.slice none 0 0] 41) := ⟨_,rfl⟩
 rw [← hw1]
 obtain ⟨b1,hb1⟩ : ∃ yy,yy = w.heap.size := ⟨_,rfl⟩
 rw [← hb1]
 have hwb : w.heap.size ≤ b1 := by omega
 have HF1 : Hid (Fr (fun _ => False) tag tag w w1) := Lib.hid (by rw [hw1]; exact (Fr.refl hok).al _)
 have HZ1 : Hid (w1.heap[b1]? = some (.cells #[.slice none 0 0,.slice none 0 0] 41 (0,0))) := Lib.hid (by rw [hw1,hb1]; exact heap_alloc_at _ _)
 have HR1 : Hid (Rd 2 w1 (.slice VA l.length vcap) l.length (claims l)) := Lib.hid (by rw [hw1]; exact HR.out.alloc _)
 clear hw1 hb1
 have hok1 := HF1.out.dom
 have HP1 := Lib.hid (H.out.frF HF1.out)
 go_upto_region 4 with (
  go_at_call 73
  refine (rright_val l true HCL.out HP1.out HR1.out hok1).mono ?_
  rintro e w2 ⟨rfl,hF2⟩
  have HF2 := Lib.hid (HF1.out.trans hF2)
  have HZ2 := Lib.hid (hF2.heap HZ1.out (fun x => x))
  have HP2 := Lib.hid (HP1.out.frF hF2)
  have hok2 := hF2.dom
  clear hF2)
 have r0 : w2.cell? ⟨b1,0,none⟩ = some (.slice none 0 0) := cell_of HZ2.out 0
 have r1 : w2.cell? ⟨b1,1,none⟩ = some (.slice none 0 0) := cell_of HZ2.out 1
 have rz0 := free_of HZ2.out 0
 have rz1 := free_of HZ2.out 1
 go_wp2_with (
  go_at_call 74
  refine (rfind_val n i HI.out HP2.out).mono ?_
  rintro e w3 ⟨rfl,hw⟩
  replace hw := hw.symm
  subst hw)
 obtain ⟨wz,hwz⟩ : ∃ yy,yy = (w2.setCell ⟨b1,0,none⟩ (.slice none 0 0)).setCell ⟨b1,1,none⟩ (.slice none 0 0) := ⟨_,rfl⟩
 rw [← hwz]
 have hzz : wz.heap[b1]? = some (.cells #[.slice none 0 0,.slice none 0 0] 41 (0,0)) := by
  rw [hwz,Go.Ng.heap_setCell_same (Go.Ng.heap_setCell_same HZ2.out 0 _) 1 _]
  rfl
 have rr0 : wz.cell? ⟨b1,0,none⟩ = some (.slice none 0 0) := cell_of hzz 0
 have rr1 : wz.cell? ⟨b1,1,none⟩ = some (.slice none 0 0) := cell_of hzz 1
 refine bodyPost_ret (v:=.tuple #[.agg #[.slice none 0 0,.slice none 0 0],.int .i64 1]) (by simp [results,Try.results21,go_sem,rr0,rr1]) rfl ?_
 exact ⟨rfl,by rw [hwz]; exact (HF2.out.scn hwb _ _).scn hwb _ _⟩
theorem rdrop_none {n : Int} (hP : RPRep tag k w p P) (hf : find P.props n = none) :
  Calls Try.prog 24 #[.pointer (some ⟨p,0,none⟩),.int .i64 n] w fun e w' => e = .returned (.tuple #[.slice none 0 0,.int .i64 3]) ∧ w' = w := by
 have HC := Lib.hid (rfind_no n (idxR_of_none hf) hP)
 clear hP hf
 go_enter Try.func24,Try.ntmps24
 go_wp2_with (go_at_call 74; refine HC.out.mono ?_; rintro e w5 ⟨rfl,h5⟩; replace h5 := h5.symm; subst h5)
 go_ret2
 exact ⟨rfl,rfl⟩
theorem rdrop_over {n : Int} {x : PropM} (hP : RPRep tag k w p P) (hf : find P.props n = some x) (hst : x.state ≠ 1) :
  Calls Try.prog 24 #[.pointer (some ⟨p,0,none⟩),.int .i64 n] w fun e w' => e = .returned (.tuple #[.slice none 0 0,.int .i64 273]) ∧ w' = w := by
 obtain ⟨i,hi,hix⟩ := find_idx hf
 obtain ⟨av,iv,pv,g1,g2,g3,prs,g6,g7,g8⟩ := hP.cells
 obtain ⟨PA,pcap,rfl,q1,q2⟩ := g7.form
 unfold maxLen at q2
 have hil : i < prs.length := by have := (List.getElem?_eq_some_iff.1 hi).1; omega
 obtain ⟨⟨xn,xc,xs,xg⟩,hx⟩ : ∃ c,prs[i]? = some c := ⟨_,List.getElem?_eq_getElem hil⟩
 have hs0 : xs = x.state := (g8 i n x _ hi hx).st
 subst hs0
 obtain ⟨pb,hpv,hpt,hps,hce⟩ := Row.elem (enc := RPr.cells) g7 (fun _ => rfl) (by decide) hx
 subst hpv
 have c3 : w.cell? ⟨p,3,none⟩ = some (.slice (some ⟨pb,0,none⟩) prs.length pcap) := cell_of g1 3
 have e2 : w.cell? ⟨pb,i * 4 + 2,none⟩ = some (.int .i64 x.state) := hce 2 _ rfl
 have i1 : (0 : Int) ≤ (i : Int) := by omega
 have i2 : (i : Int) < (prs.length : Int) := by omega
 have HC := Lib.hid (rfind_val n i hix hP)
 have i3 : (x.state != 1) = true := by simpa using hst
 clear hP hf hst hi hix g1 g2 g3 g6 g7 g8 hx hce hpt hps
 go_enter Try.func24,Try.ntmps24
 go_wp2_with (go_at_call 74; refine HC.out.mono ?_; rintro e w5 ⟨rfl,h5⟩; replace h5 := h5.symm; subst h5)
 go_ret2
 exact ⟨rfl,rfl⟩
theorem rstatus_none {n : Int} (hP : RPRep tag k w p P) (hf : find P.props n = none) :
  Calls Try.prog 92 #[.pointer (some ⟨p,0,none⟩),.int .i64 n] w fun e w' => e = .returned (.tuple #[.int .i64 0,.int .i64 3]) ∧ w' = w := by
 have HC := Lib.hid (rfind_no n (idxR_of_none hf) hP)
 clear hP hf
 go_enter Try.func92,Try.ntmps92
 go_wp2_with (go_at_call 74; refine HC.out.mono ?_; rintro e w5 ⟨rfl,h5⟩; replace h5 := h5.symm; subst h5)
 go_ret2
 exact ⟨rfl,rfl⟩
theorem rstatus_some {n : Int} {x : PropM} (hP : RPRep tag k w p P) (hf : find P.props n = some x) :
  Calls Try.prog 92 #[.pointer (some ⟨p,0,none⟩),.int .i64 n] w fun e w' => e = .returned (.tuple #[.int .i64 x.state,.int .i64 0]) ∧ w' = w := by
 obtain ⟨i,hi,hix⟩ := find_idx hf
 obtain ⟨av,iv,pv,g1,g2,g3,prs,g6,g7,g8⟩ := hP.cells
 obtain ⟨PA,pcap,rfl,q1,q2⟩ := g7.form
 unfold maxLen at q2
 have hil : i < prs.length := by have := (List.getElem?_eq_some_iff.1 hi).1; omega
 obtain ⟨⟨xn,xc,xs,xg⟩,hx⟩ : ∃ c,prs[i]? = some c := ⟨_,List.getElem?_eq_getElem hil⟩
 have hs0 : xs = x.state := (g8 i n x _ hi hx).st
 subst hs0
 obtain ⟨pb,hpv,hpt,hps,hce⟩ := Row.elem (enc := RPr.cells) g7 (fun _ => rfl) (by decide) hx
 subst hpv
 have c3 : w.cell? ⟨p,3,none⟩ = some (.slice (some ⟨pb,0,none⟩) prs.length pcap) := cell_of g1 3
 have e2 : w.cell? ⟨pb,i * 4 + 2,none⟩ = some (.int .i64 x.state) := hce 2 _ rfl
 have i1 : (0 : Int) ≤ (i : Int) := by omega
 have i2 : (i : Int) < (prs.length : Int) := by omega
 have HC := Lib.hid (rfind_val n i hix hP)
 clear hP hf hi hix g1 g2 g3 g6 g7 g8 hx hce hpt hps
 go_enter Try.func92,Try.ntmps92
 go_wp2_with (go_at_call 74; refine HC.out.mono ?_; rintro e w5 ⟨rfl,h5⟩; replace h5 := h5.symm; subst h5)
 go_ret2
 exact ⟨rfl,rfl⟩
theorem rnewPlace_bad {v : Value} (no : Int) (l : List Int) (hr : Rd 1 w v l.length (ints l)) (hl : no < 0 ∨ 32 ≤ no ∨ rightB l 32 = false) :
  Calls Try.prog 19 #[.int .i64 no,v] w fun e w' => e = .returned (.tuple #[.pointer none,.int .i64 271]) ∧ w' = w := by
 have HC := Lib.hid (rightPlaces_ok l 32 w hr)
 by_cases h3 : rightB l 32 = true
 ·rw [h3] at HC
  by_cases h1 : no < 0
  ·have i1 : decide (no < 0) = true := decide_eq_true h1
   clear hl h1 hr h3
   go_enter Try.func19,Try.ntmps19
   go_wp2_with (go_at_call 68; refine HC.out.mono ?_; rintro e w5 ⟨rfl,h5⟩; replace h5 := h5.symm; subst h5)
   go_ret2
   exact ⟨rfl,rfl⟩
  ·have i1 : decide (no < 0) = false := decide_eq_false h1
   have i2 : decide (32 ≤ no) = true := decide_eq_true (by
    rcases hl with h | h | h
    ·exact absurd h h1
    ·exact h
    ·rw [h3] at h; cases h)
   clear hl h1 hr h3
   go_enter Try.func19,Try.ntmps19
   go_wp2_with (go_at_call 68; refine HC.out.mono ?_; rintro e w5 ⟨rfl,h5⟩; replace h5 := h5.symm; subst h5)
   go_ret2
   exact ⟨rfl,rfl⟩
 ·have h4 : rightB l 32 = false := by simpa using h3
  rw [h4] at HC
  clear hl hr h3 h4
  go_enter Try.func19,Try.ntmps19
  go_wp2_with (go_at_call 68; refine HC.out.mono ?_; rintro e w5 ⟨rfl,h5⟩; replace h5 := h5.symm; subst h5)
  go_ret2
  exact ⟨rfl,rfl⟩
end
structure ItI (it : ItemM) (t : Nat) : Prop where
 qnd : (it.queue.map (·.prop)).Nodup
 qt : ∀ a ∈ it.queue,a.prop ∉ it.through
 qp : ∀ a ∈ it.queue,0 ≤ a.prop
 hold : it.held = true → it.lk.prop ∉ it.through ∧ (∀ a ∈ it.queue,a.prop ≠ it.lk.prop) ∧ 0 ≤ it.lk.prop
 sum : it.queue.length + it.through.length ≤ t
 ver : 0 ≤ it.version ∧ it.version ≤ t
structure PInv (P : PlaceM) (t : Nat) : Prop where
 wf : WF P
 nd : (P.props.map (·.1)).Nodup
 it : ∀ (j : Nat) it,P.items[j]? = some (some it) → ItI it t
 home : ∀ (j : Nat) s,P.sites[j]? = some s → (s = P.no ↔ ∃ it,P.items[j]? = some (some it))
 out : P.out = []
 came : P.came = []
 np : P.props.length ≤ t
section
variable {P P' : PlaceM} {t t' j : Nat} {it it' : ItemM} {m : Post} {n : Int} {x x' : PropM} {l : List Clm}
theorem ItI.mono (h : ItI it t) (ht : t ≤ t') : ItI it t' := ⟨h.qnd,h.qt,h.qp,h.hold,by have := h.sum; omega,by have := h.ver; omega⟩
theorem PInv.mono (h : PInv P t) (ht : t ≤ t') : PInv P t' := ⟨h.wf,h.nd,fun j it hj => (h.it j it hj).mono ht,h.home,h.out,h.came,by have := h.np; omega⟩
theorem PInv.rwell (h : PInv P t) (ht : t ≤ 1000) : RWell P :=
 ⟨h.wf,h.nd,fun j it hj => by
  have I := h.it j it hj
  have := I.sum
  have := I.ver
  exact ⟨I.qnd,I.qt,I.hold,by omega,by omega,by omega⟩,h.out,h.came⟩
theorem PInv.tame (h : PInv P t) (ht : t ≤ 1000) : Tame P :=
 ⟨h.wf,by rw [h.out]; simp,by rw [h.came]; simp,fun j it hj => by have := (h.it j it hj).sum; omega,fun j it hj => by have := (h.it j it hj).ver; omega⟩
theorem uniq_of_nd : ∀ {l : List (Int × PropM)},(l.map (·.1)).Nodup → ∀ n x y,(n,x) ∈ l → (n,y) ∈ l → x = y
 | [],_,n,x,y,h,_ => by simp at h
 | (k,z) :: l,hn,n,x,y,h1,h2 => by
  simp only [List.map_cons,List.nodup_cons] at hn
  rcases List.mem_cons.1 h1 with e1 | h1
  ·rcases List.mem_cons.1 h2 with e2 | h2
   ·injection e1 with _ e1; injection e2 with _ e2; rw [e1,e2]
   ·injection e1 with e1 _
    exact absurd (List.mem_map.2 ⟨_,h2,e1⟩) hn.1
  ·rcases List.mem_cons.1 h2 with e2 | h2
   ·injection e2 with e2 _
    exact absurd (List.mem_map.2 ⟨_,h1,e2⟩) hn.1
   ·exact uniq_of_nd hn.2 n x y h1 h2
theorem mem_addQ {a : Int} {l : List Int} : a ∈ addT n l ↔ a = n ∨ a ∈ l := by
 unfold addT
 split
 ·rename_i h
  exact ⟨.inr,fun h' => h'.elim (fun e => e ▸ h) id⟩
 ·simp [or_comm]
theorem len_addQ {l : List Int} : (addT n l).length ≤ l.length + 1 := by
 unfold addT
 split
 ·omega
 ·simp
theorem mem_others {l : List Asker} {a : Asker} : a ∈ others n l ↔ a ∈ l ∧ a.prop ≠ n := by
 simp [others,isProp]
theorem len_others {l : List Asker} : (others n l).length ≤ l.length := List.length_filter_le _ _
theorem nd_others {l : List Asker} (h : (l.map (·.prop)).Nodup) : ((others n l).map (·.prop)).Nodup := h.sublist (List.filter_sublist.map _)
theorem any_others {l : List Asker} (h : ¬ l.any (isProp n) = true) : ∀ a ∈ l,a.prop ≠ n := fun a ha e => h (List.any_eq_true.2 ⟨a,ha,by simp [isProp,e]⟩)
theorem item_get (h : P.item j = some it) : P.items[j]? = some (some it) := by
 unfold PlaceM.item at h
 rw [List.getD_eq_getElem?_getD] at h
 cases e : P.items[j]? with
 | none => simp [e] at h
 | some o => simp [e] at h; rw [h]
theorem PInv.item_step (I : PInv P t) (hj : P.items[j]? = some (some it)) (h1 : P'.no = P.no) (h2 : P'.sites = P.sites) (h3 : P'.items = P.items.set j (some it')) (h4 : P'.props = P.props) (hi : ItI it' (t + 1)) : PInv { P' with out := [],came := [] } (t + 1) := by
 have hjl := (List.getElem?_eq_some_iff.1 hj).1
 refine ⟨⟨?_,?_,?_,?_,?_,?_,?_⟩,?_,fun i it2 h => ?_,fun i s h => ?_,rfl,rfl,?_⟩
 ·show ∀ n x y,(n,x) ∈ P'.props → (n,y) ∈ P'.props → x = y
  rw [h4]; exact I.wf.uniq
 ·show ∀ n x,(n,x) ∈ P'.props → x.state = 1 → x.granted < x.claims.length
  rw [h4]; exact I.wf.opens
 ·show ∀ n x,(n,x) ∈ P'.props → x.granted ≤ x.claims.length
  rw [h4]; exact I.wf.le
 ·show ∀ n x,(n,x) ∈ P'.props → x.claims.length ≤ 64
  rw [h4]; exact I.wf.few
 ·show ∀ n x,(n,x) ∈ P'.props → ∀ c ∈ x.claims,∃ m : Nat,c.item = m ∧ m < P'.sites.length
  rw [h4,h2]; exact I.wf.claims
 ·show P'.sites.length ≤ 64
  rw [h2]; exact I.wf.sites
 ·show P'.items.length = P'.sites.length
  rw [h2,h3,List.length_set]; exact I.wf.items
 ·show (P'.props.map (·.1)).Nodup
  rw [h4]; exact I.nd
 ·have h' : (P.items.set j (some it'))[i]? = some (some it2) := by rw [← h3]; exact h
  rw [List.getElem?_set] at h'
  split at h'
  ·injection h' with h'
   injection h' with h'
   rw [← h']; exact hi
  ·exact (I.it i it2 h').mono (by omega)
 ·show s = P'.no ↔ ∃ it,P'.items[i]? = some (some it)
  have h' : P.sites[i]? = some s := by rw [← h2]; exact h
  rw [h1,I.home i s h',h3,List.getElem?_set]
  by_cases e : j = i
  ·subst e
   rw [if_pos rfl,if_pos hjl]
   exact ⟨fun _ => ⟨_,rfl⟩,fun _ => ⟨_,hj⟩⟩
  ·rw [if_neg e]
 ·show P'.props.length ≤ t + 1
  rw [h4]; have := I.np; omega
theorem PInv.prop_step (I : PInv P t) (hm : (n,x) ∈ P.props) (h1 : P'.no = P.no) (h2 : P'.sites = P.sites) (h3 : P'.items = P.items) (h4 : P'.props = upd P.props n x') (hc : x'.claims = x.claims) (hg : x'.granted ≤ x.claims.length)
  (ho : x'.state = 1 → x'.granted < x.claims.length) : PInv { P' with out := [],came := [] } (t + 1) := by
 have hk : P'.props.map (·.1) = P.props.map (·.1) := by rw [h4]; exact upd_keys _ _ _
 have hnd : (P'.props.map (·.1)).Nodup := by rw [hk]; exact I.nd
 have hmem : ∀ k y,(k,y) ∈ P'.props → (k = n ∧ y = x') ∨ (k,y) ∈ P.props := fun k y h => by
  rw [h4] at h
  rcases upd_mem h with h | ⟨_,h⟩
  ·exact .inl h
  ·exact .inr h
 refine ⟨⟨uniq_of_nd hnd,?_,?_,?_,?_,?_,?_⟩,hnd,fun i it2 h => ?_,fun i s h => ?_,rfl,rfl,?_⟩
 ·intro k y h hs
  rcases hmem k y h with ⟨_,rfl⟩ | h
  ·rw [hc]; exact ho hs
  ·exact I.wf.opens k y h hs
 ·intro k y h
  rcases hmem k y h with ⟨_,rfl⟩ | h
  ·rw [hc]; exact hg
  ·exact I.wf.le k y h
 ·intro k y h
  rcases hmem k y h with ⟨_,rfl⟩ | h
  ·rw [hc]; exact I.wf.few _ _ hm
  ·exact I.wf.few k y h
 ·intro k y h c hcc
  show ∃ m : Nat,c.item = m ∧ m < P'.sites.length
  rw [h2]
  rcases hmem k y h with ⟨_,rfl⟩ | h
  ·rw [hc] at hcc; exact I.wf.claims _ _ hm c hcc
  ·exact I.wf.claims k y h c hcc
 ·show P'.sites.length ≤ 64
  rw [h2]; exact I.wf.sites
 ·show P'.items.length = P'.sites.length
  rw [h2,h3]; exact I.wf.items
 ·have h' : P.items[i]? = some (some it2) := by rw [← h3]; exact h
  exact (I.it i it2 h').mono (by omega)
 ·show s = P'.no ↔ ∃ it,P'.items[i]? = some (some it)
  have h' : P.sites[i]? = some s := by rw [← h2]; exact h
  rw [h1,I.home i s h',h3]
 ·show P'.props.length ≤ t + 1
  have : P'.props.length = P.props.length := by have := congrArg List.length hk; simpa using this
  have := I.np
  omega
theorem PInv.idle (I : PInv P t) : PInv { P with out := [],came := [] } (t + 1) :=
 let J := I.mono (Nat.le_succ t)
 ⟨⟨J.wf.uniq,J.wf.opens,J.wf.le,J.wf.few,J.wf.claims,J.wf.sites,J.wf.items⟩,J.nd,J.it,J.home,rfl,rfl,J.np⟩
theorem PInv.same (I : PInv P t) (hj : P.items[j]? = some (some it)) : P.items = P.items.set j (some it) := by
 obtain ⟨h1,h2⟩ := List.getElem?_eq_some_iff.1 hj
 rw [← h2,List.set_getElem_self]
theorem refuseAll_items (j : Nat) (n : Int) : ∀ (l : List Asker) (P : PlaceM) (it : ItemM),P.items[j]? = some (some it) → (refuseAll j n l P it).items = P.items.set j (some (throughAll l it))
 | [],P,it,h => by
  obtain ⟨h1,h2⟩ := List.getElem?_eq_some_iff.1 h
  show P.items = P.items.set j (some it)
  rw [← h2,List.set_getElem_self]
 | a :: l,P,it,h => by
  have hl := (List.getElem?_eq_some_iff.1 h).1
  have := refuseAll_items j n l (refuseM P j it n a) { it with through := addT a.prop it.through } (by simp [refuseM,PlaceM.send,PlaceM.setItem,hl])
  refine this.trans ?_
  show (P.items.set j _).set j _ = _
  rw [List.set_set]
  rfl
theorem throughAll_facts : ∀ (l : List Asker) (it : ItemM),(throughAll l it).queue = it.queue ∧ (throughAll l it).held = it.held ∧ (throughAll l it).version = it.version ∧ (throughAll l it).through.length ≤ it.through.length + l.length
 | [],it => ⟨rfl,rfl,rfl,Nat.le_refl _⟩
 | a :: l,it => by
  obtain ⟨h1,h2,h3,h4⟩ := throughAll_facts l { it with through := addT a.prop it.through }
  refine ⟨h1,h2,h3,Nat.le_trans h4 ?_⟩
  have := @len_addQ a.prop it.through
  simp only [List.length_cons]
  omega
theorem asked_inv (I : PInv P t) (hp : 0 ≤ m.prop) (hj : P.items[j]? = some (some it)) : PInv { askedM P m j it with out := [],came := [] } (t + 1) := by
 have J := I.it j it hj
 have hs := J.sum
 have hv := J.ver
 have hv' : it.version ≤ ((t + 1 : Nat) : Int) := by omega
 unfold askedM
 split
 ·exact I.idle
 ·rename_i hno
  have a1 : m.prop ∉ it.through := fun h => hno (.inl h)
  have a2 : ∀ a ∈ it.queue,a.prop ≠ m.prop := any_others (fun h => hno (.inr (.inr h)))
  have a3 : it.held = true → it.lk.prop ≠ m.prop := fun h e => hno (.inr (.inl ⟨h,e⟩))
  split
  ·refine I.item_step hj rfl rfl rfl rfl ⟨J.qnd,fun a ha h => ?_,J.qp,fun h => ?_,?_,⟨hv.1,hv'⟩⟩
   ·rcases mem_addQ.1 h with e | h
    ·exact a2 a ha e
    ·exact J.qt a ha h
   ·obtain ⟨b1,b2,b3⟩ := J.hold h
    exact ⟨fun h' => (mem_addQ.1 h').elim (a3 h) b1,b2,b3⟩
   ·have := @len_addQ m.prop it.through
    show it.queue.length + (addT m.prop it.through).length ≤ t + 1
    omega
  ·split
   ·refine I.item_step hj rfl rfl rfl rfl ⟨?_,fun a ha => ?_,fun a ha => ?_,fun h => ?_,?_,⟨hv.1,hv'⟩⟩
    ·show ((it.queue ++ [(⟨m.prop,m.src⟩ : Asker)]).map (·.prop)).Nodup
     rw [List.map_append,List.nodup_append]
     refine ⟨J.qnd,by simp,fun a ha b hb => ?_⟩
     obtain ⟨q,hq,rfl⟩ := List.mem_map.1 ha
     simp at hb
     subst hb
     exact a2 q hq
    ·rcases List.mem_append.1 ha with h | h
     ·exact J.qt a h
     ·simp at h; subst h; exact a1
    ·rcases List.mem_append.1 ha with h | h
     ·exact J.qp a h
     ·simp at h; subst h; exact hp
    ·obtain ⟨b1,b2,b3⟩ := J.hold h
     refine ⟨b1,fun a ha => ?_,b3⟩
     rcases List.mem_append.1 ha with h' | h'
     ·exact b2 a h'
     ·simp at h'; subst h'; exact fun e => a3 h e.symm
    ·show (it.queue ++ [(⟨m.prop,m.src⟩ : Asker)]).length + it.through.length ≤ t + 1
     simp
     omega
   ·exact I.item_step hj rfl rfl rfl rfl ⟨J.qnd,J.qt,J.qp,fun _ => ⟨a1,a2,hp⟩,by show it.queue.length + it.through.length ≤ t + 1; omega,⟨hv.1,hv'⟩⟩
theorem committed_inv (I : PInv P t) (hj : P.items[j]? = some (some it)) : PInv { committedM P m j it with out := [],came := [] } (t + 1) := by
 have J := I.it j it hj
 have hs := J.sum
 have hv := J.ver
 have hv' : it.version ≤ ((t + 1 : Nat) : Int) := by omega
 have hjl := (List.getElem?_eq_some_iff.1 hj).1
 unfold committedM
 split
 ·obtain ⟨i0,hi0⟩ : ∃ y,y = ({ it with version := it.version + 1,through := addT m.prop it.through,held := false,lk := ⟨0,0⟩,queue := [] } : ItemM) := ⟨_,rfl⟩
  rw [← hi0]
  have hg : ((P.happen 3 m.prop m.item).setItem j i0).items[j]? = some (some i0) := by simp [PlaceM.happen,PlaceM.setItem,hjl]
  have hs0 := refuseAll_same j m.item it.queue _ _ hg
  obtain ⟨f1,f2,f3,f4⟩ := throughAll_facts it.queue i0
  have hq : i0.queue = [] := by rw [hi0]
  have hh : i0.held = false := by rw [hi0]
  have hve : i0.version = it.version + 1 := by rw [hi0]
  have hth : i0.through.length ≤ it.through.length + 1 := by rw [hi0]; exact len_addQ
  refine I.item_step (it' := throughAll it.queue i0) hj hs0.2.2.2.2.2.2 hs0.2.2.2.1 ?_ hs0.2.2.2.2.1 ⟨?_,?_,?_,?_,?_,?_⟩
  ·rw [refuseAll_items _ _ _ _ _ hg]
   show (P.items.set j _).set j _ = _
   rw [List.set_set]
  ·rw [f1,hq]; simp
  ·rw [f1,hq]; simp
  ·rw [f1,hq]; simp
  ·rw [f2,hh]; simp
  ·rw [f1,hq]; simp only [List.length_nil]; omega
  ·rw [f3,hve]; omega
 ·exact I.idle
theorem freed_inv (I : PInv P t) (hj : P.items[j]? = some (some it)) : PInv { freedM P m j it with out := [],came := [] } (t + 1) := by
 have J := I.it j it hj
 have hs := J.sum
 have hv := J.ver
 have hv' : it.version ≤ ((t + 1 : Nat) : Int) := by omega
 have hta := @len_addQ m.prop it.through
 have hqo := @len_others m.prop it.queue
 have qt' : ∀ a ∈ others m.prop it.queue,a.prop ∉ addT m.prop it.through := fun a ha h => by
  obtain ⟨h1,h2⟩ := mem_others.1 ha
  exact (mem_addQ.1 h).elim h2 (J.qt a h1)
 have qp' : ∀ a ∈ others m.prop it.queue,0 ≤ a.prop := fun a ha => J.qp a (mem_others.1 ha).1
 unfold freedM
 split
 ·split
  ·rename_i h0
   exact I.item_step hj rfl rfl rfl rfl ⟨nd_others J.qnd,qt',qp',(fun h => by cases h),(by show (others m.prop it.queue).length + (addT m.prop it.through).length ≤ t + 1; omega),⟨hv.1,hv'⟩⟩
  ·rename_i a l h0
   have ha : a ∈ others m.prop it.queue := by rw [h0]; simp
   have hqq := @len_others a.prop (a :: l)
   rw [← h0] at hqq
   refine I.item_step hj rfl rfl rfl rfl ⟨?_,?_,?_,fun _ => ⟨qt' a ha,fun b hb => (mem_others.1 hb).2,qp' a ha⟩,?_,⟨hv.1,hv'⟩⟩
   ·show ((others a.prop (a :: l)).map (·.prop)).Nodup
    rw [← h0]
    exact nd_others (nd_others J.qnd)
   ·show ∀ b ∈ others a.prop (a :: l),b.prop ∉ addT m.prop it.through
    rw [← h0]
    exact fun b hb => qt' b (mem_others.1 hb).1
   ·show ∀ b ∈ others a.prop (a :: l),0 ≤ b.prop
    rw [← h0]
    exact fun b hb => qp' b (mem_others.1 hb).1
   ·show (others a.prop (a :: l)).length + (addT m.prop it.through).length ≤ t + 1
    rw [← h0]
    omega
 ·rename_i hno
  refine I.item_step hj rfl rfl rfl rfl ⟨nd_others J.qnd,qt',qp',fun h => ?_,(by show (others m.prop it.queue).length + (addT m.prop it.through).length ≤ t + 1; omega),⟨hv.1,hv'⟩⟩
  obtain ⟨b1,b2,b3⟩ := J.hold h
  exact ⟨fun h' => (mem_addQ.1 h').elim (fun e => hno ⟨h,e⟩) b1,fun a ha => b2 a (mem_others.1 ha).1,b3⟩
theorem granted_inv (I : PInv P t) : PInv { grantedM P m with out := [],came := [] } (t + 1) := by
 unfold grantedM
 split
 ·exact I.idle
 ·rename_i x hx
  obtain ⟨hm,hst⟩ := openM_mem hx
  have hlt := I.wf.opens _ _ hm hst
  split
  ·rename_i c hc
   have := (List.getElem?_eq_some_iff.1 hc).1
   exact I.prop_step hm rfl rfl rfl rfl rfl (by show x.granted + 1 ≤ _; omega) (fun _ => this)
  ·have hs := commitM_same m.prop x.claims ((setProp P m.prop { x with granted := x.granted + 1,state := 2 }).happen 1 m.prop (-1))
   exact I.prop_step (x' := { x with granted := x.granted + 1,state := 2 }) hm hs.2.2.2.2.2.1 hs.2.1 hs.2.2.1 hs.2.2.2.1 rfl (by show x.granted + 1 ≤ _; omega) (fun h => by simp at h)
theorem refused_inv (I : PInv P t) : PInv { refusedM P m with out := [],came := [] } (t + 1) := by
 unfold refusedM
 split
 ·exact I.idle
 ·rename_i x hx
  obtain ⟨hm,hst⟩ := openM_mem hx
  have hlt := I.wf.opens _ _ hm hst
  have hs := freeM_same m.prop (x.claims.take x.granted) ((setProp P m.prop { x with state := 3 }).happen 2 m.prop (-1))
  exact I.prop_step (x' := { x with state := 3 }) hm hs.2.2.2.2.2.1 hs.2.1 hs.2.2.1 hs.2.2.2.1 rfl (by show x.granted ≤ _; omega) (fun h => by simp at h)
theorem take_inv (I : PInv P t) (hp : 0 ≤ m.prop) : PInv { takeM P m with out := [],came := [] } (t + 1) := by
 unfold takeM
 split
 ·exact granted_inv I
 ·split
  ·exact refused_inv I
  ·split
   ·exact I.idle
   ·rename_i it hit
    have hj := item_get hit
    split
    ·exact asked_inv I hp hj
    ·split
     ·exact committed_inv I hj
     ·exact freed_inv I hj
theorem drop_inv (I : PInv P t) (hf : find P.props n = some x) : PInv { dropM P n x with out := [],came := [] } (t + 1) := by
 have hm := find_mem hf
 have hle := I.wf.le _ _ hm
 unfold dropM
 split
 ·exact I.idle
 ·have hs := freeM_same n (x.claims.take x.granted) (setProp P n { x with state := 4 })
  exact I.prop_step (x' := { x with state := 4 }) hm hs.2.2.2.2.2.1 hs.2.1 hs.2.2.1 hs.2.2.2.1 rfl (by show x.granted ≤ _; omega) (fun h => by simp at h)
theorem propose_inv (I : PInv P t) (xp : Nat) (hcl : claimedB P.sites.length l = true) (hf : find P.props n = none) : PInv { proposeM P n l xp with out := [],came := [] } (t + 1) := by
 have hck := claimed_of hcl
 have hk := find_none_keys hf
 obtain ⟨c,hc⟩ := claimed_head hcl
 have hp : (proposeM P n l xp).props = P.props ++ [(n,⟨xp,l,1,0⟩)] ∧ (proposeM P n l xp).no = P.no ∧ (proposeM P n l xp).sites = P.sites ∧ (proposeM P n l xp).items = P.items := by
  cases l with
  | nil => simp at hc
  | cons a l => exact ⟨rfl,rfl,rfl,rfl⟩
 obtain ⟨h4,h1,h2,h3⟩ := hp
 generalize proposeM P n l xp = P' at h1 h2 h3 h4
 have hnd : (P'.props.map (·.1)).Nodup := by
  rw [h4,List.map_append,List.nodup_append]
  refine ⟨I.nd,by simp,fun a ha b hb => ?_⟩
  simp at hb
  subst hb
  exact fun e => hk (e ▸ ha)
 have hmem : ∀ k y,(k,y) ∈ P'.props → (k = n ∧ y = ⟨xp,l,1,0⟩) ∨ (k,y) ∈ P.props := fun k y h => by
  rw [h4] at h
  rcases List.mem_append.1 h with h | h
  ·exact .inr h
  ·simp at h; exact .inl h
 refine ⟨⟨uniq_of_nd hnd,?_,?_,?_,?_,?_,?_⟩,hnd,fun i it2 h => ?_,fun i s h => ?_,rfl,rfl,?_⟩
 ·intro k y h hs
  rcases hmem k y h with ⟨_,rfl⟩ | h
  ·show 0 < l.length
   have := hck.len; omega
  ·exact I.wf.opens k y h hs
 ·intro k y h
  rcases hmem k y h with ⟨_,rfl⟩ | h
  ·exact Nat.zero_le _
  ·exact I.wf.le k y h
 ·intro k y h
  rcases hmem k y h with ⟨_,rfl⟩ | h
  ·exact hck.len.2
  ·exact I.wf.few k y h
 ·intro k y h c hcc
  show ∃ m : Nat,c.item = m ∧ m < P'.sites.length
  rw [h2]
  rcases hmem k y h with ⟨_,rfl⟩ | h
  ·have := hck.item c hcc
   exact ⟨c.item.toNat,by omega,by omega⟩
  ·exact I.wf.claims k y h c hcc
 ·show P'.sites.length ≤ 64
  rw [h2]; exact I.wf.sites
 ·show P'.items.length = P'.sites.length
  rw [h2,h3]; exact I.wf.items
 ·have h' : P.items[i]? = some (some it2) := by rw [← h3]; exact h
  exact (I.it i it2 h').mono (by omega)
 ·show s = P'.no ↔ ∃ it,P'.items[i]? = some (some it)
  have h' : P.sites[i]? = some s := by rw [← h2]; exact h
  rw [h1,I.home i s h',h3]
 ·show P'.props.length ≤ t + 1
  rw [h4]
  have := I.np
  simp
  omega
theorem begun_inv {no : Int} {l : List Int} (B : Begun P no l l) (hl : rightB l 32 = true) : PInv P 0 := by
 have h64 : l.length ≤ 64 := by
  simp only [rightB,Bool.and_eq_true,decide_eq_true_eq] at hl
  exact hl.1
 refine ⟨⟨?_,?_,?_,?_,?_,by rw [B.psites]; exact h64,by rw [B.len,B.psites]⟩,by rw [B.props]; simp,fun j it hj => ?_,fun j s hs => ?_,B.out,B.came,by rw [B.props]; simp⟩
 ·rw [B.props]; intro n x y h; simp at h
 ·rw [B.props]; intro n x h; simp at h
 ·rw [B.props]; intro n x h; simp at h
 ·rw [B.props]; intro n x h; simp at h
 ·rw [B.props]; intro n x h; simp at h
 ·obtain ⟨_,b1,b2,b3,b4,b5⟩ := B.item j it hj
  refine ⟨by rw [b3]; simp,by rw [b3]; simp,by rw [b3]; simp,by rw [b1]; simp,by rw [b3,b5]; simp,by rw [b4]; simp⟩
 ·rw [B.psites] at hs
  rw [B.pno]
  constructor
  ·rintro rfl; exact B.has j hs
  ·rintro ⟨it,hit⟩
   have := (B.item j it hit).1
   rw [hs] at this
   injection this
theorem RPlace0.rep_of {tag : Nat → Tag} {w : World} {k p : Nat} {no : Int} {l : List Int} (h : RPlace0 tag k w p no l l.length) (hk : k ≠ 0) (B : Begun P no l l) : RPRep tag k w p P := by
 obtain ⟨av,iv,h1,h2,h3⟩ := h.cells
 rw [List.take_length] at h2
 refine ⟨hk,h.ptr,av,iv,.slice none 0 0,by rw [B.pno]; exact h1,by rw [B.psites]; exact h2,⟨List.replicate l.length ⟨0,-1,.slice none 0 0,.slice none 0 0⟩,by simp [B.len],by rw [List.length_replicate,refItems_eq]; exact h3,fun j o x ho hx => ?_⟩,[],by rw [B.props]; rfl,Row.nil _ _ _ _ _,fun i n y x a b => by simp at b⟩
 have hx' : x = ⟨0,-1,.slice none 0 0,.slice none 0 0⟩ := by
  rw [List.getElem?_replicate] at hx
  split at hx
  ·injection hx with hx; exact hx.symm
  ·cases hx
 subst hx'
 cases o with
 | none => rfl
 | some it =>
  obtain ⟨_,b1,b2,b3,b4,b5⟩ := B.item j it ho
  refine ⟨b4.symm,by rw [b1]; simp,by rw [b3]; exact ORow.nil _ _ _ _,by rw [b5]; exact Row.nil _ _ _ _ _⟩
theorem RPRep.reptr {tag : Nat → Tag} {w : World} {k p : Nat} (h : RPRep tag k w p P) (h1 : P'.no = P.no) (h2 : P'.sites = P.sites) (h3 : P'.items = P.items) (hl : P'.props.length = P.props.length)
  (h4 : ∀ (i : Nat) n y',P'.props[i]? = some (n,y') → ∃ y,P.props[i]? = some (n,y) ∧ y'.claims = y.claims ∧ y'.state = y.state ∧ y'.granted = y.granted) : RPRep tag k w p P' := by
 obtain ⟨av,iv,pv,q1,q2,⟨its,q3,q4,q5⟩,prs,q6,q7,q8⟩ := h.cells
 refine ⟨h.k0,h.ptr,av,iv,pv,by rw [h1]; exact q1,by rw [h2]; exact q2,⟨its,by rw [h3]; exact q3,q4,by rw [h3]; exact q5⟩,prs,by rw [hl]; exact q6,q7,fun i n y' x a b => ?_⟩
 obtain ⟨y,hy,e1,e2,e3⟩ := h4 i n y' a
 have := q8 i n y x hy b
 exact ⟨this.no,by rw [e2]; exact this.st,by rw [e3]; exact this.got,by rw [e1]; exact this.cr,this.ct⟩
theorem RPRep.told {tag : Nat → Tag} {w : World} {k p : Nat} (h : RPRep tag k w p P) : RPRep tag k w p { P with out := [],came := [] } := h.reptr rfl rfl rfl rfl (fun i n y hy => ⟨y,hy,rfl,rfl,rfl⟩)
theorem RPRep.propose {tag : Nat → Tag} {w : World} {k p : Nat} {l : List Clm} (xp : Nat) (h : RPRep tag k w p (proposeM P n l 0)) (hl : 1 ≤ l.length) : RPRep tag k w p { proposeM P n l xp with out := [],came := [] } := by
 cases l with
 | nil => simp at hl
 | cons c l =>
  refine h.reptr rfl rfl rfl (by simp [proposeM,PlaceM.send]) (fun i k y hy => ?_)
  have hy' : (P.props ++ [(n,(⟨xp,c :: l,1,0⟩ : PropM))])[i]? = some (k,y) := hy
  show ∃ y0,(P.props ++ [(n,(⟨0,c :: l,1,0⟩ : PropM))])[i]? = some (k,y0) ∧ _
  rw [List.getElem?_append] at hy' ⊢
  split at hy'
  ·rename_i e
   rw [if_pos e]
   exact ⟨y,hy',rfl,rfl,rfl⟩
  ·rename_i e
   rw [if_neg e]
   obtain ⟨e1,e2⟩ := List.getElem?_eq_some_iff.1 hy'
   simp at e1
   rw [e1] at hy' ⊢
   simp at hy'
   obtain ⟨rfl,rfl⟩ := hy'
   exact ⟨_,rfl,rfl,rfl,rfl⟩
end
section
variable {tag : Nat → Tag} {k p j : Nat} {P : PlaceM} {it : ItemM} {w : World}
theorem rown_low (n : Int) (h : RPRep tag k w p P) (hok : TagOk tag w) (hn : n < 0) :
  Calls Try.prog 119 #[.pointer (some ⟨p,0,none⟩),.int .i64 n] w fun e w' => e = .returned (.bool false) ∧ Fr (fun _ => False) tag tag w w' := by
 have i1 : decide (0 ≤ n) = false := decide_eq_false (by omega)
 clear h hn
 go_enter Try.func119,Try.ntmps119
 go_wp2_with fail
 go_quiet (fail)
 go_wp2
 go_ret
 exact ⟨rfl,(Fr.refl hok).dN _⟩
theorem rown_high (n : Int) (h : RPRep tag k w p P) (hok : TagOk tag w) (h0 : 0 ≤ n) (hn : (P.sites.length : Int) ≤ n) :
  Calls Try.prog 119 #[.pointer (some ⟨p,0,none⟩),.int .i64 n] w fun e w' => e = .returned (.bool false) ∧ Fr (fun _ => False) tag tag w w' := by
 obtain ⟨av,iv,pv,h1,h2,_,_⟩ := h.cells
 obtain ⟨A,cap,rfl,hl1,hl2⟩ := h2.form
 unfold maxLen at hl2
 have c1 : w.cell? ⟨p,1,none⟩ = some (.slice A P.sites.length cap) := cell_of h1 1
 have hpl := lt_of_heap h1
 have i1 : decide (0 ≤ n) = true := decide_eq_true h0
 have i2 : decide (n < (P.sites.length : Int)) = false := decide_eq_false (by omega)
 clear h hn h0 h1 h2
 go_enter Try.func119,Try.ntmps119
 go_wp2_with fail
 go_quiet (fail)
 go_wp2
 go_ret
 exact ⟨rfl,(Fr.refl hok).dN _⟩
theorem rown_at {s : Int} {c : Bool} (h : RPRep tag k w p P) (hok : TagOk tag w) (hj : P.sites[j]? = some s) (hc : (s == P.no) = c) :
  Calls Try.prog 119 #[.pointer (some ⟨p,0,none⟩),.int .i64 (j : Int)] w fun e w' => e = .returned (.bool c) ∧ Fr (fun _ => False) tag tag w w' := by
 obtain ⟨av,iv,pv,h1,h2,_,_⟩ := h.cells
 have hjl := (List.getElem?_eq_some_iff.1 hj).1
 obtain ⟨b,cap,rfl,hl1,hl2,hsc⟩ := PRep.site_cell h2 hjl
 unfold maxLen at hl2
 have hss : P.site (j : Int) = s := by
  unfold PlaceM.site
  rw [List.getD_eq_getElem?_getD]
  simp [hj]
 rw [hss] at hsc
 have c0 : w.cell? ⟨p,0,none⟩ = some (.int .i64 P.no) := cell_of h1 0
 have c1 : w.cell? ⟨p,1,none⟩ = some (.slice (some ⟨b,0,none⟩) P.sites.length cap) := cell_of h1 1
 have hpl := lt_of_heap h1
 have hbl := World.block_lt_of_cell? w _ hsc
 have i1 : (0 : Int) ≤ (j : Int) := by omega
 have i2 : (j : Int) < (P.sites.length : Int) := by omega
 clear h h1 h2 hj hss
 go_enter Try.func119,Try.ntmps119
 go_wp2_with fail
 go_quiet (fail)
 go_wp2
 go_ret
 exact ⟨rfl,(Fr.refl hok).dN _⟩
def Z128 : Obj := .cells #[.int .i64 0,.int .i64 0,.slice none 0 0,.slice none 0 0] 128 (0,0)
theorem four_cells {w1 : World} {b1 : Nat} {a0 a1 a2 a3 x0 x1 x2 x3 : Value} (h : w1.heap[b1]? = some (.cells #[a0,a1,a2,a3] 128 (0,0))) {wz : World}
  (hz : wz = (((w1.setCell ⟨b1,0,none⟩ x0).setCell ⟨b1,1,none⟩ x1).setCell ⟨b1,2,none⟩ x2).setCell ⟨b1,3,none⟩ x3) :
  wz.cell? ⟨b1,0,none⟩ = some x0 ∧ wz.cell? ⟨b1,1,none⟩ = some x1 ∧ wz.cell? ⟨b1,2,none⟩ = some x2 ∧ wz.cell? ⟨b1,3,none⟩ = some x3 := by
 have hzz : wz.heap[b1]? = some (.cells #[x0,x1,x2,x3] 128 (0,0)) := by
  rw [hz,Go.Ng.heap_setCell_same (Go.Ng.heap_setCell_same (Go.Ng.heap_setCell_same (Go.Ng.heap_setCell_same h 0 _) 1 _) 2 _) 3 _]
  rfl
 exact ⟨cell_of hzz 0,cell_of hzz 1,cell_of hzz 2,cell_of hzz 3⟩
theorem ritem_nil (n : Int) (hok : TagOk tag w) :
  Calls Try.prog 87 #[.pointer none,.int .i64 n] w fun e w' => e = .returned (.tuple #[.agg #[.int .i64 0,.int .i64 0,.slice none 0 0,.slice none 0 0],.int .i64 271]) ∧ Fr (fun _ => False) tag tag w w' := by
 go_enter Try.func87,Try.ntmps87
 go_upto_region 1 with fail
 obtain ⟨w1,hw1⟩ : ∃ yy,yy = w.alloc (.cells #[.int .i64 0,.int .i64 0,.slice none 0 0,.slice none 0 0] 128) := ⟨_,rfl⟩
 rw [← hw1]
 obtain ⟨b1,hb1⟩ : ∃ yy,yy = w.heap.size := ⟨_,rfl⟩
 rw [← hb1]
 have hwb : w.heap.size ≤ b1 := by omega
 have HF1 : Hid (Fr (fun _ => False) tag tag w w1) := Lib.hid (by rw [hw1]; exact (Fr.refl hok).al _)
 have HZ1 : Hid (w1.heap[b1]? = some (.cells #[.int .i64 0,.int .i64 0,.slice none 0 0,.slice none 0 0] 128 (0,0))) := Lib.hid (by rw [hw1,hb1]; exact heap_alloc_at _ _)
 clear hw1 hb1
 have r0 : w1.cell? ⟨b1,0,none⟩ = some (.int .i64 0) := cell_of HZ1.out 0
 have r1 : w1.cell? ⟨b1,1,none⟩ = some (.int .i64 0) := cell_of HZ1.out 1
 have r2 : w1.cell? ⟨b1,2,none⟩ = some (.slice none 0 0) := cell_of HZ1.out 2
 have r3 : w1.cell? ⟨b1,3,none⟩ = some (.slice none 0 0) := cell_of HZ1.out 3
 have rz0 := free_of HZ1.out 0
 have rz1 := free_of HZ1.out 1
 have rz2 := free_of HZ1.out 2
 have rz3 := free_of HZ1.out 3
 go_wp2_with fail
 obtain ⟨wz,hwz⟩ : ∃ yy,yy = (((w1.setCell ⟨b1,0,none⟩ (.int .i64 0)).setCell ⟨b1,1,none⟩ (.int .i64 0)).setCell ⟨b1,2,none⟩ (.slice none 0 0)).setCell ⟨b1,3,none⟩ (.slice none 0 0) := ⟨_,rfl⟩
 rw [← hwz]
 obtain ⟨rr0,rr1,rr2,rr3⟩ := four_cells HZ1.out hwz
 refine bodyPost_ret (v:=.tuple #[.agg #[.int .i64 0,.int .i64 0,.slice none 0 0,.slice none 0 0],.int .i64 271]) (by simp [results,Try.results87,go_sem,rr0,rr1,rr2,rr3]) rfl ?_
 exact ⟨rfl,by rw [hwz]; exact (((HF1.out.scn hwb _ _).scn hwb _ _).scn hwb _ _).scn hwb _ _⟩
theorem ritem_no (n : Int) (h : RPRep tag k w p P) (hok : TagOk tag w) (hn : n < 0 ∨ (P.sites.length : Int) ≤ n ∨ ∃ (j : Nat) (s : Int),n = j ∧ P.sites[j]? = some s ∧ s ≠ P.no) :
  Calls Try.prog 87 #[.pointer (some ⟨p,0,none⟩),.int .i64 n] w fun e w' => e = .returned (.tuple #[.agg #[.int .i64 0,.int .i64 0,.slice none 0 0,.slice none 0 0],.int .i64 3]) ∧ Fr (fun _ => False) tag tag w w' := by
 have hOwn : ∀ w1 : World,RPRep tag k w1 p P → TagOk tag w1 → Calls Try.prog 119 #[.pointer (some ⟨p,0,none⟩),.int .i64 n] w1 fun e w' => e = .returned (.bool false) ∧ Fr (fun _ => False) tag tag w1 w' := fun w1 h1 hok1 => by
  by_cases a1 : n < 0
  ·exact rown_low n h1 hok1 a1
  by_cases a2 : (P.sites.length : Int) ≤ n
  ·exact rown_high n h1 hok1 (by omega) a2
  obtain ⟨j,s,rfl,hj,hs⟩ : ∃ (j : Nat) (s : Int),n = j ∧ P.sites[j]? = some s ∧ s ≠ P.no := by
   rcases hn with h | h | h
   ·exact absurd h a1
   ·exact absurd h a2
   ·exact h
  exact rown_at h1 hok1 hj (by simpa using hs)
 have HOWN := Lib.hid hOwn
 have H := Lib.hid h
 clear h hn hOwn
 go_enter Try.func87,Try.ntmps87
 go_upto_region 1 with fail
 obtain ⟨w1,hw1⟩ : ∃ yy,yy = w.alloc (.cells #[.int .i64 0,.int .i64 0,.slice none 0 0,.slice none 0 0] 128) := ⟨_,rfl⟩
 rw [← hw1]
 obtain ⟨b1,hb1⟩ : ∃ yy,yy = w.heap.size := ⟨_,rfl⟩
 rw [← hb1]
 have hwb : w.heap.size ≤ b1 := by omega
 have HF1 : Hid (Fr (fun _ => False) tag tag w w1) := Lib.hid (by rw [hw1]; exact (Fr.refl hok).al _)
 have HZ1 : Hid (w1.heap[b1]? = some (.cells #[.int .i64 0,.int .i64 0,.slice none 0 0,.slice none 0 0] 128 (0,0))) := Lib.hid (by rw [hw1,hb1]; exact heap_alloc_at _ _)
 have HP1 := Lib.hid (H.out.frF HF1.out)
 have hok1 := HF1.out.dom
 clear hw1 hb1
 go_upto_region 4 with (
  go_at_call 119
  refine (HOWN.out w1 HP1.out hok1).mono ?_
  rintro e w2 ⟨rfl,hF2⟩
  have HF2 := Lib.hid (HF1.out.trans hF2)
  have HZ2 := Lib.hid (hF2.heap HZ1.out (fun x => x))
  clear hF2)
 have r0 : w2.cell? ⟨b1,0,none⟩ = some (.int .i64 0) := cell_of HZ2.out 0
 have r1 : w2.cell? ⟨b1,1,none⟩ = some (.int .i64 0) := cell_of HZ2.out 1
 have r2 : w2.cell? ⟨b1,2,none⟩ = some (.slice none 0 0) := cell_of HZ2.out 2
 have r3 : w2.cell? ⟨b1,3,none⟩ = some (.slice none 0 0) := cell_of HZ2.out 3
 have rz0 := free_of HZ2.out 0
 have rz1 := free_of HZ2.out 1
 have rz2 := free_of HZ2.out 2
 have rz3 := free_of HZ2.out 3
 go_wp2_with fail
 obtain ⟨wz,hwz⟩ : ∃ yy,yy = (((w2.setCell ⟨b1,0,none⟩ (.int .i64 0)).setCell ⟨b1,1,none⟩ (.int .i64 0)).setCell ⟨b1,2,none⟩ (.slice none 0 0)).setCell ⟨b1,3,none⟩ (.slice none 0 0) := ⟨_,rfl⟩
 rw [← hwz]
 obtain ⟨rr0,rr1,rr2,rr3⟩ := four_cells HZ2.out hwz
 refine bodyPost_ret (v:=.tuple #[.agg #[.int .i64 0,.int .i64 0,.slice none 0 0,.slice none 0 0],.int .i64 3]) (by simp [results,Try.results87,go_sem,rr0,rr1,rr2,rr3]) rfl ?_
 exact ⟨rfl,by rw [hwz]; exact (((HF2.out.scn hwb _ _).scn hwb _ _).scn hwb _ _).scn hwb _ _⟩
theorem ritem_ok (h : RPRep tag k w p P) (hok : TagOk tag w) (hj : P.items[j]? = some (some it)) (hs : P.sites[j]? = some P.no) :
  Calls Try.prog 87 #[.pointer (some ⟨p,0,none⟩),.int .i64 (j : Int)] w fun e w' => ∃ WA wcap TA tlen tcap,e = .returned (.tuple #[.agg #[.int .i64 it.version,.int .i64 (if it.held = true then it.lk.prop else -1),.slice WA it.queue.length wcap,.slice TA tlen tcap],.int .i64 0]) ∧
   ORow tag (k,6,(j : Int)) 2 w' (.slice WA it.queue.length wcap) it.queue.length (askers it.queue) ∧ Fr (fun _ => False) tag tag w w' := by
 obtain ⟨av,iv,pv,h1,h2,⟨its,h3,h4,h5⟩,hprs⟩ := h.cells
 obtain ⟨IA,icap,rfl,q1,q2⟩ := h4.form
 unfold maxLen at q2
 have hjl := (List.getElem?_eq_some_iff.1 hj).1
 obtain ⟨⟨xv,xh,xw,xt⟩,hx⟩ : ∃ c,its[j]? = some c := ⟨_,List.getElem?_eq_getElem (by omega)⟩
 have hri : RItem tag k w j it _ := h5 j _ _ hj hx
 obtain ⟨ib,hib,hit,his,hce⟩ := Row.elem (enc := RIt.cells) h4 (fun _ => rfl) (by decide) hx
 subst hib
 obtain ⟨rv,rh,rw',rt⟩ := hri
 simp only at rv rh rw' rt
 subst rv
 rw [← rh]
 clear rh
 obtain ⟨WA,wcap,rfl,s1,s2⟩ := rw'.slice
 obtain ⟨TA,tcap,rfl,t1,t2⟩ := rt.form
 have i1 : (0 : Int) ≤ (j : Int) := by omega
 have i2 : (j : Int) < (its.length : Int) := by omega
 have H := Lib.hid h
 have H1 := Lib.hid h1
 have HCE := Lib.hid hce
 have HRW := Lib.hid rw'
 have HS := Lib.hid hs
 have HPT := Lib.hid h.ptr
 clear h h1 h2 h3 h4 h5 hprs hj hx hce rw' rt hs
 go_enter Try.func87,Try.ntmps87
 go_upto_region 1 with fail
 obtain ⟨w1,hw1⟩ : ∃ yy,yy = w.alloc (.cells #[.int .i64 0,.int .i64 0,.slice none 0 0,.slice none 0 0] 128) := ⟨_,rfl⟩
 rw [← hw1]
 obtain ⟨b1,hb1⟩ : ∃ yy,yy = w.heap.size := ⟨_,rfl⟩
 rw [← hb1]
 have hwb : w.heap.size ≤ b1 := by omega
 have HF1 : Hid (Fr (fun _ => False) tag tag w w1) := Lib.hid (by rw [hw1]; exact (Fr.refl hok).al _)
 have HZ1 : Hid (w1.heap[b1]? = some (.cells #[.int .i64 0,.int .i64 0,.slice none 0 0,.slice none 0 0] 128 (0,0))) := Lib.hid (by rw [hw1,hb1]; exact heap_alloc_at _ _)
 have HP1 := Lib.hid (H.out.frF HF1.out)
 have hok1 := HF1.out.dom
 clear hw1 hb1
 go_upto_region 4 with (
  go_at_call 119
  refine (rown_at HP1.out hok1 HS.out (c := true) (by simp)).mono ?_
  rintro e w2 ⟨rfl,hF2⟩
  have HF2 := Lib.hid (HF1.out.trans hF2)
  have HZ2 := Lib.hid (hF2.heap HZ1.out (fun x => x))
  clear hF2)
 have g2 : w2.cell? ⟨p,2,none⟩ = some (.slice (some ⟨ib,0,none⟩) its.length icap) := HF2.out.cellF (cell_of H1.out 2)
 have e0 : w2.cell? ⟨ib,j * 4,none⟩ = some (.int .i64 it.version) := HF2.out.cellF (HCE.out 0 _ rfl)
 have e1 : w2.cell? ⟨ib,j * 4 + 1,none⟩ = some (.int .i64 xh) := HF2.out.cellF (HCE.out 1 _ rfl)
 have e2 : w2.cell? ⟨ib,j * 4 + 2,none⟩ = some (.slice WA it.queue.length wcap) := HF2.out.cellF (HCE.out 2 _ rfl)
 have e3 : w2.cell? ⟨ib,j * 4 + 3,none⟩ = some (.slice TA it.through.length tcap) := HF2.out.cellF (HCE.out 3 _ rfl)
 have r0 : w2.cell? ⟨b1,0,none⟩ = some (.int .i64 0) := cell_of HZ2.out 0
 have r1 : w2.cell? ⟨b1,1,none⟩ = some (.int .i64 0) := cell_of HZ2.out 1
 have r2 : w2.cell? ⟨b1,2,none⟩ = some (.slice none 0 0) := cell_of HZ2.out 2
 have r3 : w2.cell? ⟨b1,3,none⟩ = some (.slice none 0 0) := cell_of HZ2.out 3
 have rz0 := free_of HZ2.out 0
 have rz1 := free_of HZ2.out 1
 have rz2 := free_of HZ2.out 2
 have rz3 := free_of HZ2.out 3
 go_wp2_with fail
 obtain ⟨wz,hwz⟩ : ∃ yy,yy = (((w2.setCell ⟨b1,0,none⟩ (.int .i64 it.version)).setCell ⟨b1,1,none⟩ (.int .i64 xh)).setCell ⟨b1,2,none⟩ (.slice WA it.queue.length wcap)).setCell ⟨b1,3,none⟩ (.slice TA it.through.length tcap) := ⟨_,rfl⟩
 rw [← hwz]
 obtain ⟨rr0,rr1,rr2,rr3⟩ := four_cells HZ2.out hwz
 have hF : Fr (fun _ => False) tag tag w wz := by rw [hwz]; exact (((HF2.out.scn hwb _ _).scn hwb _ _).scn hwb _ _).scn hwb _ _
 refine bodyPost_ret (v:=.tuple #[.agg #[.int .i64 it.version,.int .i64 xh,.slice WA it.queue.length wcap,.slice TA it.through.length tcap],.int .i64 0]) (by simp [results,Try.results87,go_sem,rr0,rr1,rr2,rr3]) rfl ?_
 exact ⟨WA,wcap,TA,_,tcap,rfl,HRW.out.fr hF (fun x => x),hF⟩
theorem rwaiting_ok {q : List Asker} {a0 a1 : Int} {WA TA : Option Addr} {wcap tl tcap : Nat} {t0 t : Tag} (hr : ORow tag t0 2 w (.slice WA q.length wcap) q.length (askers q)) (hok : TagOk tag w) (hq : q.length ≤ 100000) (ht : ∀ b,b < w.heap.size → tag b ≠ t) (ht0 : t.1 ≠ 0) :
  Calls Try.prog 91 #[.agg #[.int .i64 a0,.int .i64 a1,.slice WA q.length wcap,.slice TA tl tcap]] w fun e w' => ∃ v,e = .returned v ∧ ∃ tag',Row tag' t 3 1 w' v q.length (ints (q.map (·.prop))) ∧ Fr (fun _ => False) tag tag' w w' := by
 obtain ⟨i0,hi,hz0,hz1,hz2⟩ := info_parts Try.info3
 have HQ := Lib.hid hr
 have hcap : wcap ≤ 2 ^ 63 - 1 := by
  obtain ⟨A,cap,hv,_,h2⟩ := hr.slice
  injection hv with _ _ hv
  subst hv
  exact h2
 clear hr
 go_enter Try.func91,Try.ntmps91
 go_upto_region 1 with fail
 obtain ⟨w1,hw1⟩ : ∃ yy,yy = w.alloc (.cells #[.int .i64 a0,.int .i64 a1,.slice WA q.length wcap,.slice TA tl tcap] 128) := ⟨_,rfl⟩
 rw [← hw1]
 obtain ⟨b1,hb1⟩ : ∃ yy,yy = w.heap.size := ⟨_,rfl⟩
 rw [← hb1]
 have hwb : w.heap.size ≤ b1 := by omega
 have HF1 : Hid (Fr (fun _ => False) tag tag w w1) := Lib.hid (by rw [hw1]; exact (Fr.refl hok).al _)
 have z2 : w1.cell? ⟨b1,2,none⟩ = some (.slice WA q.length wcap) := by rw [hw1,hb1]; go_simp
 have HTB : Hid (tag b1 ≠ t) := Lib.hid (fun e => ht0 (by rw [← e]; exact tag_new hok hwb))
 clear hw1 hb1
 have Z2 := Lib.hid z2
 clear z2
 go_wp2_with fail
 go_loopw [4,3] (fun i v wr => ∃ n : Nat,n ≤ q.length ∧ i = .int .i64 n ∧ ∃ A2 cap2,v = .slice A2 n cap2 ∧ ∃ tagr,Hid (Row tagr t 3 1 wr (.slice A2 n cap2) n (ints ((q.take n).map (·.prop)))) ∧ Hid (Fr (· = t) tag tagr w1 wr)) (fun i _ _ => q.length - (intOf i).toNat)
 case atStart => exact ⟨0,Nat.zero_le _,rfl,none,0,rfl,tag,Lib.hid (Row.nil _ _ _ _ _),Lib.hid (Fr.refl HF1.out.dom)⟩
 case round =>
  obtain ⟨n,hn,rfl,A2,cap2,rfl,tagr,HR,HG⟩ := hrel
  have HF := Lib.hid (((HF1.out.mono (S' := (· = t)) (fun _ h => h.elim)).trans HG.out).fresh ht)
  have z2 : wr.cell? ⟨b1,2,none⟩ = some (.slice WA q.length wcap) := HG.out.cell Z2.out HTB.out
  by_cases hlt : n < q.length
  ·obtain ⟨⟨ap,al⟩,hx⟩ : ∃ c,q[n]? = some c := ⟨_,List.getElem?_eq_getElem hlt⟩
   obtain ⟨qb,qoff,qcap,hv,_,_,hce⟩ := Rd.elem (enc := Asker.cells) HQ.out.rd (fun _ => rfl) (by decide) hx
   injection hv with hv _ hv2
   subst hv hv2
   have e0 : wr.cell? ⟨qb,qoff + n * 2,none⟩ = some (.int .i64 ap) := HF.out.cellF (hce 0 _ rfl)
   have htk : q.take (n + 1) = q.take n ++ [⟨ap,al⟩] := by
    rw [List.take_succ_eq_append_getElem hlt]
    congr 2
    exact (List.getElem?_eq_some_iff.1 hx).2
   have HT := Lib.hid htk
   have i5 : (0 : Int) ≤ (n : Int) := by omega
   have i6 : (n : Int) < (q.length : Int) := by omega
   have hokr := HF.out.dom
   have hbw := World.block_lt_of_cell? wr _ z2
   clear hx hce htk
   go_wp2_with (at_builtin; refine append_list rfl (.tmp 12) (.tmp 19) 22 rfl (by rfl) (by rfl) (HR.out.alloc _) (hokr.alloc _) Try.underlying22 hi hz0 hz1 hz2 rfl (by decide) [.int .i64 ap] rfl (news_at (heap_alloc_at _ _)) (by simp [Value.oneCell']) (by decide) (by unfold maxLen; omega) (by omega) ?_; intro g cap3 w3 tag3 hrow hfr)
   go_roundw
   case rel =>
    refine ⟨n + 1,by omega,by go_num,_,_,rfl,tag3,Lib.hid ?_,Lib.hid ((HG.out.al _).trans hfr)⟩
    rw [HT.out,List.map_append,List.map_cons,List.map_nil,ints_snoc]
    exact hrow
   case measure => simp [intOf]; omega
  ·have : n = q.length := by omega
   subst this
   go_wp2
   go_ret
   refine ⟨_,rfl,tagr,?_,HF.out⟩
   have := HR.out
   rw [List.take_length] at this
   exact this
end
abbrev TG := Nat → Tag
def TellsNo (pv qv : Value) (n c : Int) (tag : TG) (w : World) : Prop :=
 (Calls Try.prog 87 #[qv,.int .i64 n] w fun e w' => e = .returned (.tuple #[.agg #[.int .i64 0,.int .i64 0,.slice none 0 0,.slice none 0 0],.int .i64 c]) ∧ Fr (fun _ => False) tag tag w w') ∧
 (Calls Try.prog 88 #[pv,.int .i64 n] w fun e w' => e = .returned (.tuple #[.int .i64 0,.int .i64 c]) ∧ w' = w) ∧
 (Calls Try.prog 89 #[pv,.int .i64 n] w fun e w' => e = .returned (.tuple #[.int .i64 0,.int .i64 c]) ∧ w' = w) ∧
 (Calls Try.prog 90 #[pv,.int .i64 n] w fun e w' => e = .returned (.tuple #[.slice none 0 0,.int .i64 c]) ∧ w' = w)
def TellsIt (pv qv : Value) (n ver hold : Int) (q : List Asker) (tag : TG) (w : World) : Prop :=
 (Calls Try.prog 87 #[qv,.int .i64 n] w fun e w' => ∃ WA wcap TA tl tcap t0,e = .returned (.tuple #[.agg #[.int .i64 ver,.int .i64 hold,.slice WA q.length wcap,.slice TA tl tcap],.int .i64 0]) ∧ ORow tag t0 2 w' (.slice WA q.length wcap) q.length (askers q) ∧ Fr (fun _ => False) tag tag w w') ∧
 (Calls Try.prog 88 #[pv,.int .i64 n] w fun e w' => e = .returned (.tuple #[.int .i64 ver,.int .i64 0]) ∧ w' = w) ∧
 (Calls Try.prog 89 #[pv,.int .i64 n] w fun e w' => e = .returned (.tuple #[.int .i64 hold,.int .i64 0]) ∧ w' = w) ∧
 (Calls Try.prog 90 #[pv,.int .i64 n] w fun e w' => ∃ v,e = .returned (.tuple #[v,.int .i64 0]) ∧ ∃ (tag' : TG) (t : Tag),Row tag' t 3 1 w' v q.length (ints (q.map (·.prop))) ∧ Fr (fun _ => False) tag tag' w w')
structure Tells (pv qv : Value) (Good : TG → World → Prop) : Prop where
 fr : ∀ {tag tag' : TG} {w w' : World},Good tag w → Fr (fun _ => False) tag tag' w w' → Good tag' w'
 item : ∀ n : Int,(∃ c : Int,c ≠ 0 ∧ ∀ (tag : TG) (w : World),Good tag w → TagOk tag w → TellsNo pv qv n c tag w) ∨
  (∃ (ver hold : Int) (q : List Asker),q.length ≤ 100000 ∧ ∀ (tag : TG) (w : World),Good tag w → TagOk tag w → TellsIt pv qv n ver hold q tag w)
 status : ∀ n : Int,∃ s c : Int,∀ (tag : TG) (w : World),Good tag w → TagOk tag w →
  (Calls Try.prog 45 #[pv,.int .i64 n] w fun e w' => e = .returned (.tuple #[.int .i64 s,.int .i64 c]) ∧ w' = w) ∧
  (Calls Try.prog 92 #[qv,.int .i64 n] w fun e w' => e = .returned (.tuple #[.int .i64 s,.int .i64 c]) ∧ w' = w)
section
variable {tag : TG} {w : World}
theorem samePlace_ok {pv qv : Value} {Good : TG → World → Prop} (HT0 : Tells pv qv Good) (m : Nat) (hm : m ≤ 1000000) {l : List OpM} {v : Value} (hG : Good tag w) (hok : TagOk tag w) (hl : OpsRd tag w v l) (hl80 : l.length ≤ 80) :
  Calls Try.prog 28 #[pv,qv,.int .i64 (m : Int),v] w fun e w' => e = .returned (.bool true) ∧ ∃ tag' : TG,Fr (fun _ => False) tag tag' w w' := by
 obtain ⟨LA,lcap,rfl,q1,q2⟩ := hl.slice
 unfold maxLen at q2
 have HT := Lib.hid HT0
 have HG := Lib.hid hG
 have HL := Lib.hid hl
 clear HT0 hG hl
 go_enter Try.func28,Try.ntmps28
 go_wp2_with fail
 go_loopw [9] (fun i wr => ∃ kk : Int,-1 ≤ kk ∧ kk ≤ m + 1 ∧ i = .int .i64 kk ∧ ∃ Tr : TG,Hid (Good Tr wr) ∧ Hid (Fr (fun _ => False) tag Tr w wr)) (fun i _ => ((m : Int) + 1 - intOf i).toNat)
 case atStart => exact ⟨-1,by omega,by omega,rfl,tag,HG,Lib.hid (Fr.refl hok)⟩
 case round =>
  obtain ⟨kk,hk1,hk2,rfl,Tr,HGr,HFr⟩ := hrel
  have hokr := HFr.out.dom
  by_cases hlt : kk ≤ (m : Int)
  ·have i7 : decide (kk ≤ (m : Int)) = true := decide_eq_true hlt
   have hit := HT.out.item kk
   rcases hit with ⟨c,hc,he⟩ | ⟨ver,hold,q,hq,ho⟩
   ·have c1 : (c != c) = false := by simp
    have c0 : (c == 0) = false := by simpa using hc
    have HE := Lib.hid he
    clear he hc
    go_upto_region 5 with (
     go_at_call 87
     refine (HE.out Tr wr HGr.out hokr).1.mono ?_
     rintro e w2 ⟨rfl,hF2⟩
     have HF2 := Lib.hid (HFr.out.trans hF2)
     have HG2 := Lib.hid (HT.out.fr HGr.out hF2)
     have hok2 := hF2.dom
     clear hF2)
    obtain ⟨w3,hw3⟩ : ∃ yy,yy = w2.alloc (.cells #[.int .i64 0,.int .i64 0,.slice none 0 0,.slice none 0 0] 128) := ⟨_,rfl⟩
    rw [← hw3]
    have hF3 : Fr (fun _ => False) Tr Tr w2 w3 := by rw [hw3]; exact Fr.alloc hok2 _
    have HG3 := Lib.hid (HT.out.fr HG2.out hF3)
    have HF3 := Lib.hid (HF2.out.trans hF3)
    have hok3 := hF3.dom
    clear hw3 hF3
    go_wp2_with (first
    | (
     go_at_call 88
     refine (HE.out Tr w3 HG3.out hok3).2.1.mono ?_
     rintro e w4 ⟨rfl,hw⟩
     replace hw := hw.symm
     subst hw)
    | (
     go_at_call 89
     refine (HE.out Tr w3 HG3.out hok3).2.2.1.mono ?_
     rintro e w5 ⟨rfl,hw⟩
     replace hw := hw.symm
     subst hw)
    | (
     go_at_call 90
     refine (HE.out Tr w3 HG3.out hok3).2.2.2.mono ?_
     rintro e w6 ⟨rfl,hw⟩
     replace hw := hw.symm
     subst hw))
    go_roundw
    case rel => exact ⟨kk + 1,by omega,by omega,by go_num,Tr,HG3,HF3⟩
    case measure => simp [intOf]; omega
   ·have c1 : (ver != ver) = false := by simp
    have c0 : (hold != hold) = false := by simp
    have HO := Lib.hid ho
    clear ho
    go_upto_region 5 with (
     go_at_call 87
     refine (HO.out Tr wr HGr.out hokr).1.mono ?_
     rintro e w2 ⟨WA,wcap,TA,tl,tcap,t0,rfl,hq2,hF2⟩
     have HQ2 := Lib.hid hq2
     have HF2 := Lib.hid (HFr.out.trans hF2)
     have HG2 := Lib.hid (HT.out.fr HGr.out hF2)
     have hok2 := hF2.dom
     clear hF2 hq2)
    obtain ⟨w3,hw3⟩ : ∃ yy,yy = w2.alloc (.cells #[.int .i64 ver,.int .i64 hold,.slice WA q.length wcap,.slice TA tl tcap] 128) := ⟨_,rfl⟩
    obtain ⟨b3,hb3⟩ : ∃ yy,yy = w2.heap.size := ⟨_,rfl⟩
    rw [← hw3,← hb3]
    have hF3 : Fr (fun _ => False) Tr Tr w2 w3 := by rw [hw3]; exact Fr.alloc hok2 _
    have HX3 : Hid (w3.heap[b3]? = some (.cells #[.int .i64 ver,.int .i64 hold,.slice WA q.length wcap,.slice TA tl tcap] 128 (0,0))) := Lib.hid (by rw [hw3,hb3]; exact heap_alloc_at _ _)
    have HG3 := Lib.hid (HT.out.fr HG2.out hF3)
    have HQ3 := Lib.hid (HQ2.out.fr hF3 (fun x => x))
    have HF3 := Lib.hid (HF2.out.trans hF3)
    have hok3 := hF3.dom
    clear hw3 hF3 hb3
    go_upto_region 8 with (first
    | (
     go_at_call 88
     refine (HO.out Tr w3 HG3.out hok3).2.1.mono ?_
     rintro e w4 ⟨rfl,hw⟩
     replace hw := hw.symm
     subst hw)
    | (
     go_at_call 89
     refine (HO.out Tr w3 HG3.out hok3).2.2.1.mono ?_
     rintro e w5 ⟨rfl,hw⟩
     replace hw := hw.symm
     subst hw)
    | (
     go_at_call 90
     refine (HO.out Tr w3 HG3.out hok3).2.2.2.mono ?_
     rintro e w6 ⟨v6,rfl,T6,t6,h6,hF6⟩
     obtain ⟨A6,cap6,rfl,_,_⟩ := h6.form
     have H6 := Lib.hid h6
     have HX6 := Lib.hid (hF6.heap HX3.out (fun x => x))
     have HQ6 := Lib.hid (HQ3.out.fr hF6 (fun x => x))
     have HG6 := Lib.hid (HT.out.fr HG3.out hF6)
     have HF6 := Lib.hid (HF3.out.trans hF6)
     have hok6 := hF6.dom
     clear hF6 h6))
    have x0 : w6.cell? ⟨b3,0,none⟩ = some (.int .i64 ver) := cell_of HX6.out 0
    have x1 : w6.cell? ⟨b3,1,none⟩ = some (.int .i64 hold) := cell_of HX6.out 1
    have x2 : w6.cell? ⟨b3,2,none⟩ = some (.slice WA q.length wcap) := cell_of HX6.out 2
    have x3 : w6.cell? ⟨b3,3,none⟩ = some (.slice TA tl tcap) := cell_of HX6.out 3
    have HQL : Hid ((q.map (·.prop)).length = q.length) := Lib.hid (List.length_map _)
    obtain ⟨t7,ht7,_,hfr7⟩ := fresh_tag T6 w6.heap.size 700 1
    have HT7 : Hid (t7.1 ≠ 0) := Lib.hid (by rw [ht7]; decide)
    have HFR7 := Lib.hid hfr7
    clear ht7 hfr7
    go_wp2_with (first
    | (
     go_at_call 91
     refine (rwaiting_ok HQ6.out hok6 hq HFR7.out HT7.out).mono ?_
     rintro e w7 ⟨v7,rfl,T7,h7,hF7⟩
     obtain ⟨A7,cap7,rfl,_,_⟩ := h7.form
     have R7 : Hid (Rd 1 w7 (.slice A7 q.length cap7) (q.map (·.prop)).length (ints (q.map (·.prop)))) := Lib.hid (by rw [HQL.out]; exact h7.rd (ints_one _))
     have R6 : Hid (Rd 1 w7 (.slice A6 q.length cap6) (q.map (·.prop)).length (ints (q.map (·.prop)))) := Lib.hid (by rw [HQL.out]; exact (H6.out.fr hF7 (fun x => x)).rd (ints_one _))
     have HG7 := Lib.hid (HT.out.fr HG6.out hF7)
     have HF7 := Lib.hid (HF6.out.trans hF7)
     have hok7 := hF7.dom
     clear hF7 h7)
    | (
     go_at_call 58
     refine (equalInts_ok (q.map (·.prop)) R6.out R7.out hok7 (by rw [HQL.out]; omega)).mono ?_
     rintro e w8 ⟨rfl,hF8⟩
     have HG8 := Lib.hid (HT.out.fr HG7.out hF8)
     have HF8 := Lib.hid (HF7.out.trans hF8)
     clear hF8))
    go_roundw
    case rel => exact ⟨kk + 1,by omega,by omega,by go_num,T7,HG8,HF8⟩
    case measure => simp [intOf]; omega
  ·have i7 : decide (kk ≤ (m : Int)) = false := decide_eq_false hlt
   go_wp2_with fail
   go_loopw [89] (fun i wx => ∃ n : Nat,n ≤ l.length ∧ i = .int .i64 n ∧ Hid (Fr (fun _ => False) Tr Tr wr wx)) (fun i _ => l.length - (intOf i).toNat)
   case atStart => exact ⟨0,Nat.zero_le _,rfl,Lib.hid (Fr.refl hokr)⟩
   case round =>
    obtain ⟨n,hn,rfl,HFx⟩ := hrel
    have hokx := HFx.out.dom
    have HGx := Lib.hid (HT.out.fr HGr.out HFx.out)
    by_cases hlt2 : n < l.length
    ·obtain ⟨⟨ok,on,cs⟩,hx⟩ : ∃ o,l[n]? = some o := ⟨_,List.getElem?_eq_getElem hlt2⟩
     obtain ⟨ob,ooff,ocap',u,hov,o0,o1,o2,hxr⟩ := (HL.out.fr (HFr.out.trans HFx.out) (fun t h => h.elim)).get hx
     injection hov with hov _ hov2
     subst hov hov2
     simp only at o0 o1 o2 hxr
     obtain ⟨UA,ucap,rfl,u2⟩ := hxr.slice
     unfold maxLen at u2
     have i5 : (0 : Int) ≤ (n : Int) := by omega
     have i6 : (n : Int) < (l.length : Int) := by omega
     obtain ⟨s,c,hst⟩ := HT.out.status on
     have HST := Lib.hid hst
     have c1 : (s != s) = false := by simp
     have c2 : (c != c) = false := by simp
     clear hx hxr hst
     go_upto_region 15 with fail
     obtain ⟨w5,hw5⟩ : ∃ y,y = wr.alloc (.cells #[.int .i64 ok,.int .i64 on,.slice UA cs.length ucap] 36) := ⟨_,rfl⟩
     obtain ⟨bo,hbo⟩ : ∃ y,y = wr.heap.size := ⟨_,rfl⟩
     have hF5 : Fr (fun _ => False) Tr Tr wr w5 := by rw [hw5]; exact Fr.alloc hokx _
     have a1 : w5.cell? ⟨bo,1,none⟩ = some (.int .i64 on) := by rw [hw5,hbo]; go_simp
     rw [← hw5,← hbo]
     have HG5 := Lib.hid (HT.out.fr HGx.out hF5)
     have HF5 := Lib.hid (HFx.out.trans hF5)
     have hok5 := hF5.dom
     clear hw5 hbo hF5 o0 o1 o2
     go_wp2_with (first
     | (
      go_at_call 45
      refine (HST.out Tr w5 HG5.out hok5).1.mono ?_
      rintro e w6 ⟨rfl,hw⟩
      replace hw := hw.symm
      subst hw)
     | (
      go_at_call 92
      refine (HST.out Tr w5 HG5.out hok5).2.mono ?_
      rintro e w7 ⟨rfl,hw⟩
      replace hw := hw.symm
      subst hw))
     go_roundw
     case rel => exact ⟨n + 1,by omega,by go_num,HF5⟩
     case measure => simp [intOf]; omega
    ·have : n = l.length := by omega
     subst this
     go_wp2_with fail
     go_ret
     exact ⟨rfl,Tr,HFr.out.trans HFx.out⟩
end
def pvO (pp : Nat) : Option PlaceM → Value
 | none => .pointer none
 | some _ => .pointer (some ⟨pp,0,none⟩)
def NO (pp : Nat) (tag : TG) (w : World) : Option PlaceM → Prop
 | none => True
 | some P => PRep tag 600 w P ∧ P.ptr = pp
def RO (q : Nat) (tag : TG) (w : World) : Option PlaceM → Prop
 | none => True
 | some P => RPRep tag 610 w q P
def StI (t : Nat) : Option PlaceM → Prop
 | none => True
 | some P => PInv P t
def PostsV (a : Nat) (tag : TG) (w : World) (v : Value) (l : List Post) : Prop := (∃ t : Tag,t.1 = a ∧ Row tag t 49 6 w v l.length (posts l)) ∨ (l = [] ∧ v = .slice none 0 0)
def CamesV (a : Nat) (tag : TG) (w : World) (v : Value) (l : List Came) : Prop := (∃ t : Tag,t.1 = a ∧ Row tag t 106 3 w v l.length (cames l)) ∨ (l = [] ∧ v = .slice none 0 0)
def NTook (pp : Nat) (E : Int) (lo : List Post) (lc : List Came) (o' : Option PlaceM) (tag : TG) (w : World) (e : Ending) (w' : World) : Prop :=
 ∃ OA ocap CA ccap,e = .returned (.tuple #[.slice OA lo.length ocap,.slice CA lc.length ccap,.int .i64 E]) ∧ ∃ tag' : TG,PostsV 600 tag' w' (.slice OA lo.length ocap) lo ∧ CamesV 600 tag' w' (.slice CA lc.length ccap) lc ∧ NO pp tag' w' o' ∧ Fr (fun t => t.1 = 600) tag tag' w w'
def RTookV (q : Nat) (E : Int) (lo : List Post) (lc : List Came) (o' : Option PlaceM) (tag : TG) (w : World) (e : Ending) (w' : World) : Prop :=
 ∃ OA ocap CA ccap,e = .returned (.tuple #[.agg #[.slice OA lo.length ocap,.slice CA lc.length ccap],.int .i64 E]) ∧ ∃ tag' : TG,PostsV 611 tag' w' (.slice OA lo.length ocap) lo ∧ CamesV 611 tag' w' (.slice CA lc.length ccap) lc ∧ RO q tag' w' o' ∧ Fr (fun t => t.1 = 610 ∨ t.1 = 611) tag tag' w w'
def NDropV (pp : Nat) (E : Int) (lo : List Post) (o' : Option PlaceM) (tag : TG) (w : World) (e : Ending) (w' : World) : Prop :=
 ∃ OA ocap,e = .returned (.tuple #[.slice OA lo.length ocap,.int .i64 E]) ∧ ∃ tag' : TG,PostsV 600 tag' w' (.slice OA lo.length ocap) lo ∧ NO pp tag' w' o' ∧ Fr (fun t => t.1 = 600) tag tag' w w'
def RDropV (q : Nat) (E : Int) (lo : List Post) (o' : Option PlaceM) (tag : TG) (w : World) (e : Ending) (w' : World) : Prop :=
 ∃ OA ocap,e = .returned (.tuple #[.slice OA lo.length ocap,.int .i64 E]) ∧ ∃ tag' : TG,PostsV 611 tag' w' (.slice OA lo.length ocap) lo ∧ RO q tag' w' o' ∧ Fr (fun t => t.1 = 610 ∨ t.1 = 611) tag tag' w w'
section
variable {S : Tag → Prop} {tag tag' : TG} {w w' : World} {o o' : Option PlaceM} {a pp q t : Nat} {v : Value} {lo : List Post} {lc : List Came} {E : Int} {e : Ending} {P : PlaceM} {m : Post} {n : Int} {l : List Clm}
theorem NO.fr (h : NO pp tag w o) (hf : Fr S tag tag' w w') (hS : ∀ t,S t → t.1 ≠ 600) : NO pp tag' w' o := by
 cases o with
 | none => trivial
 | some P => exact ⟨h.1.fr hf (fun r i hs => hS _ hs rfl),h.2⟩
theorem RO.fr (h : RO q tag w o) (hf : Fr S tag tag' w w') (hS : ∀ t,S t → t.1 ≠ 610) : RO q tag' w' o := by
 cases o with
 | none => trivial
 | some P => exact RPRep.fr h hf (fun r i hs => hS _ hs rfl)
theorem NO.frF (h : NO pp tag w o) (hf : Fr (fun _ => False) tag tag' w w') : NO pp tag' w' o := h.fr hf (fun _ h => h.elim)
theorem RO.frF (h : RO q tag w o) (hf : Fr (fun _ => False) tag tag' w w') : RO q tag' w' o := h.fr hf (fun _ h => h.elim)
theorem StI.mono {t' : Nat} (h : StI t o) (ht : t ≤ t') : StI t' o := by
 cases o with
 | none => trivial
 | some P => exact PInv.mono h ht
theorem PostsV.form (h : PostsV a tag w v lo) : ∃ A cap,v = .slice A lo.length cap := by
 rcases h with ⟨t,_,h⟩ | ⟨rfl,rfl⟩
 ·obtain ⟨A,cap,h,_,_⟩ := h.form; exact ⟨A,cap,h⟩
 ·exact ⟨none,0,rfl⟩
theorem PostsV.fr (h : PostsV a tag w v lo) (hf : Fr S tag tag' w w') (hS : ∀ t,S t → t.1 ≠ a) : PostsV a tag' w' v lo := by
 rcases h with ⟨t,h1,h⟩ | h
 ·exact .inl ⟨t,h1,h.fr hf (fun hs => hS _ hs h1)⟩
 ·exact .inr h
theorem PostsV.rd (h : PostsV a tag w v lo) : Rd 6 w v lo.length (posts lo) := by
 rcases h with ⟨t,h1,h⟩ | ⟨rfl,rfl⟩
 ·exact h.rd (posts_one _)
 ·exact ⟨rfl,by simp [posts],.inl ⟨rfl,rfl⟩⟩
theorem CamesV.fr (h : CamesV a tag w v lc) (hf : Fr S tag tag' w w') (hS : ∀ t,S t → t.1 ≠ a) : CamesV a tag' w' v lc := by
 rcases h with ⟨t,h1,h⟩ | h
 ·exact .inl ⟨t,h1,h.fr hf (fun hs => hS _ hs h1)⟩
 ·exact .inr h
theorem CamesV.rd (h : CamesV a tag w v lc) : Rd 3 w v lc.length (cames lc) := by
 rcases h with ⟨t,h1,h⟩ | ⟨rfl,rfl⟩
 ·exact h.rd (cames_one _)
 ·exact ⟨rfl,by simp [cames],.inl ⟨rfl,rfl⟩⟩
theorem ntook_err (hN : NO pp tag w o) (h : e = .returned (.tuple #[.slice none 0 0,.slice none 0 0,.int .i64 E]) ∧ Fr (fun _ => False) tag tag w w') : NTook pp E [] [] o tag w e w' :=
 ⟨none,0,none,0,h.1,tag,.inr ⟨rfl,rfl⟩,.inr ⟨rfl,rfl⟩,hN.frF h.2,h.2.mono (fun _ h => h.elim)⟩
theorem rtook_err (hN : RO q tag w o) (h : e = .returned (.tuple #[.agg #[.slice none 0 0,.slice none 0 0],.int .i64 E]) ∧ Fr (fun _ => False) tag tag w w') : RTookV q E [] [] o tag w e w' :=
 ⟨none,0,none,0,h.1,tag,.inr ⟨rfl,rfl⟩,.inr ⟨rfl,rfl⟩,hN.frF h.2,h.2.mono (fun _ h => h.elim)⟩
theorem ndrop_err (hN : NO pp tag w o) (hok : TagOk tag w) (h : e = .returned (.tuple #[.slice none 0 0,.int .i64 E]) ∧ w' = w) : NDropV pp E [] o tag w e w' := by
 obtain ⟨h1,rfl⟩ := h
 exact ⟨none,0,h1,tag,.inr ⟨rfl,rfl⟩,hN,Fr.refl hok⟩
theorem rdrop_err (hN : RO q tag w o) (hok : TagOk tag w) (h : e = .returned (.tuple #[.slice none 0 0,.int .i64 E]) ∧ w' = w) : RDropV q E [] o tag w e w' := by
 obtain ⟨h1,rfl⟩ := h
 exact ⟨none,0,h1,tag,.inr ⟨rfl,rfl⟩,hN,Fr.refl hok⟩
theorem valid_item (I : PInv P t) (hv : Valid P m) (h2 : m.kind ≠ 2) (h3 : m.kind ≠ 3) : ∃ it,P.items[m.item.toNat]? = some (some it) := by
 have hs := hv.site
 rw [if_neg (by rintro (h | h); exact h2 h; exact h3 h),hv.dst] at hs
 have hi := hv.item
 have hl : m.item.toNat < P.sites.length := by omega
 have hg : P.sites[m.item.toNat]? = some P.no := by
  rw [List.getElem?_eq_getElem hl,← hs]
  unfold PlaceM.site
  rw [List.getD_eq_getElem?_getD,List.getElem?_eq_getElem hl]
  rfl
 exact (I.home _ _ hg).1 rfl
theorem take_len (I : PInv P t) : (takeM P m).out.length ≤ 64 + t ∧ (takeM P m).came.length ≤ 1 := by
 have ho := I.out
 have hc := I.came
 unfold takeM
 split
 ·unfold grantedM
  split
  ·simp [ho,hc]
  ·rename_i x hx
   have hfew := I.wf.few _ _ (openM_mem hx).1
   split
   ·simp [PlaceM.send,setProp,ho,hc]; omega
   ·have hs := commitM_same m.prop x.claims ((setProp P m.prop { x with granted := x.granted + 1,state := 2 }).happen 1 m.prop (-1))
    rw [hs.2.2.2.2.2.2.1,hs.2.2.2.2.1]
    simp [PlaceM.happen,setProp,ho,hc]
    omega
 ·split
  ·unfold refusedM
   split
   ·simp [ho,hc]
   ·rename_i x hx
    have hfew := I.wf.few _ _ (openM_mem hx).1
    have hs := freeM_same m.prop (x.claims.take x.granted) ((setProp P m.prop { x with state := 3 }).happen 2 m.prop (-1))
    rw [hs.2.2.2.2.2.2.1,hs.2.2.2.2.1]
    simp [PlaceM.happen,setProp,ho,hc]
    omega
  ·split
   ·simp [ho,hc]
   ·rename_i it hit
    have hj := item_get hit
    have hq := (I.it _ _ hj).sum
    have hjl := (List.getElem?_eq_some_iff.1 hj).1
    split
    ·unfold askedM
     split
     ·simp [ho,hc]
     ·split
      ·simp [refuseM,PlaceM.send,PlaceM.setItem,ho,hc]; omega
      ·split
       ·simp [PlaceM.setItem,ho,hc]
       ·simp [grantM,PlaceM.send,PlaceM.setItem,ho,hc]; omega
    ·split
     ·unfold committedM
      split
      ·have hs := refuseAll_same m.item.toNat m.item it.queue ((P.happen 3 m.prop m.item).setItem m.item.toNat { it with version := it.version + 1,through := addT m.prop it.through,held := false,lk := ⟨0,0⟩,queue := [] }) { it with version := it.version + 1,through := addT m.prop it.through,held := false,lk := ⟨0,0⟩,queue := [] } (by simp [PlaceM.happen,PlaceM.setItem,hjl])
       rw [hs.2.1,hs.2.2.2.2.2.1]
       simp [PlaceM.happen,PlaceM.setItem,ho,hc]
       omega
      ·simp [ho,hc]
     ·unfold freedM
      split
      ·split
       ·simp [PlaceM.setItem,ho,hc]
       ·simp [grantM,PlaceM.send,PlaceM.setItem,ho,hc]; omega
      ·simp [PlaceM.setItem,ho,hc]
theorem take_both (o : Option PlaceM) (I : StI t o) (ht : t ≤ 1000) (m : Post) : ∃ (E : Int) (lo : List Post) (lc : List Came) (o' : Option PlaceM),StI (t + 1) o' ∧ (∀ pp,pvO pp o' = pvO pp o) ∧ lo.length ≤ 1000000 ∧ lc.length ≤ 1000000 ∧
  (∀ (pp : Nat) (tag : TG) (w : World),NO pp tag w o → TagOk tag w → Calls Try.prog 25 #[pvO pp o,Post.val m] w (NTook pp E lo lc o' tag w)) ∧
  (∀ (q : Nat) (tag : TG) (w : World),RO q tag w o → TagOk tag w → Calls Try.prog 26 #[pvO q o,Post.val m] w (RTookV q E lo lc o' tag w)) := by
 cases o with
 | none => exact ⟨271,[],[],none,trivial,fun _ => rfl,by simp,by simp,fun pp tag w _ hok => (nil25 hok).mono fun e w' h => ntook_err trivial h,fun q tag w _ hok => (rnil26 hok).mono fun e w' h => rtook_err trivial h⟩
 | some P =>
  have hI : PInv P t := I
  by_cases hv : Valid P m
  ·by_cases h23 : (m.kind = 2 ∨ m.kind = 3) ∧ find P.props m.prop = none
   ·refine ⟨3,[],[],some P,hI.mono (Nat.le_succ t),fun _ => rfl,by simp,by simp,fun pp tag w hN hok => ?_,fun q tag w hN hok => ?_⟩
    ·obtain ⟨h1,rfl⟩ := hN
     exact (take_none m h1 hok hv h23.1 h23.2).mono fun e w' h => ntook_err (o := some P) ⟨h1,rfl⟩ h
    ·obtain ⟨mk,ms,md,mp,mi,mv⟩ := m
     obtain ⟨h23,hf⟩ := h23
     simp only at h23 hf
     rcases h23 with rfl | rfl
     ·exact (rtake_none2 hN hok hv hf).mono fun e w' h => rtook_err (o := some P) hN h
     ·exact (rtake_none3 hN hok hv hf).mono fun e w' h => rtook_err (o := some P) hN h
   ·have hpr : m.kind = 2 ∨ m.kind = 3 → ∃ x,find P.props m.prop = some x := fun h => by
     cases hf : find P.props m.prop with
     | none => exact absurd ⟨h,hf⟩ h23
     | some x => exact ⟨x,rfl⟩
    have hit := fun h2 h3 => valid_item hI hv h2 h3
    obtain ⟨l1,l2⟩ := take_len (m := m) hI
    refine ⟨0,(takeM P m).out,(takeM P m).came,some { takeM P m with out := [],came := [] },take_inv hI hv.prop.1,fun _ => rfl,by omega,by omega,fun pp tag w hN hok => ?_,fun q tag w hN hok => ?_⟩
    ·obtain ⟨h1,rfl⟩ := hN
     refine (take_ok m h1 hok hv (hI.tame ht) hpr hit).mono ?_
     rintro e w' ⟨ov,cv,rfl,tag',r1,r2,r3,r4⟩
     obtain ⟨OA,ocap,rfl,_,_⟩ := r1.form
     obtain ⟨CA,ccap,rfl,_,_⟩ := r2.form
     exact ⟨OA,ocap,CA,ccap,rfl,tag',.inl ⟨_,rfl,r1⟩,.inl ⟨_,rfl,r2⟩,⟨r3,takeM_ptr P m⟩,r4⟩
    ·refine (rtake_ok (R := 611) m hN hok (by decide) (by decide) hv (hI.rwell ht) hpr hit).mono ?_
     rintro e w' ⟨ov,cv,tag',rfl,r1,r2,r3,r4⟩
     obtain ⟨OA,ocap,rfl,_,_⟩ := r1.form
     obtain ⟨CA,ccap,rfl,_,_⟩ := r2.form
     exact ⟨OA,ocap,CA,ccap,rfl,tag',.inl ⟨_,rfl,r1⟩,.inl ⟨_,rfl,r2⟩,RPRep.told r3,r4⟩
  ·refine ⟨272,[],[],some P,hI.mono (Nat.le_succ t),fun _ => rfl,by simp,by simp,fun pp tag w hN hok => ?_,fun q tag w hN hok => ?_⟩
   ·obtain ⟨h1,rfl⟩ := hN
    exact (take_bad m h1 hok hv).mono fun e w' h => ntook_err (o := some P) ⟨h1,rfl⟩ h
   ·obtain ⟨mk,ms,md,mp,mi,mv⟩ := m
    exact (rtake_bad hN hok hv).mono fun e w' h => rtook_err (o := some P) hN h
theorem proposeM_facts (P : PlaceM) (n : Int) (l : List Clm) (xp : Nat) (hl : 1 ≤ l.length) (ho : P.out = []) : (proposeM P n l xp).out = (proposeM P n l 0).out ∧ (proposeM P n l xp).came = P.came ∧ (proposeM P n l xp).ptr = P.ptr ∧ (proposeM P n l 0).out.length = 1 := by
 cases l with
 | nil => simp at hl
 | cons c l => exact ⟨rfl,rfl,rfl,by simp [proposeM,PlaceM.send,ho]⟩
theorem propose_both (o : Option PlaceM) (I : StI t o) (ht : t ≤ 1000) (n : Int) (l : List Clm) : ∃ (E : Int) (lo : List Post) (oo : Nat → Option PlaceM),(∀ xp,StI (t + 1) (oo xp) ∧ ∀ pp,pvO pp (oo xp) = pvO pp o) ∧ lo.length ≤ 1000000 ∧
  (∀ (pp : Nat) (tag : TG) (w : World) (v : Value),NO pp tag w o → TagOk tag w → RdX tag w v l → Calls Try.prog 20 #[pvO pp o,.int .i64 n,v] w fun e w' => ∃ xp,NTook pp E lo [] (oo xp) tag w e w') ∧
  (∀ (q : Nat) (tag : TG) (w : World) (v : Value) (xp : Nat),RO q tag w o → TagOk tag w → RdX tag w v l → Calls Try.prog 21 #[pvO q o,.int .i64 n,v] w (RTookV q E lo [] (oo xp) tag w)) := by
 cases o with
 | none => exact ⟨271,[],fun _ => none,fun _ => ⟨trivial,fun _ => rfl⟩,by simp,fun pp tag w v _ hok _ => (nil20 w n v).mono fun e w' h => ⟨0,ntook_err trivial ⟨h.1,by rw [h.2]; exact Fr.refl hok⟩⟩,fun q tag w v xp _ hok _ => (rnil21 n v hok).mono fun e w' h => rtook_err trivial h⟩
 | some P =>
  have hI : PInv P t := I
  have hs : P.sites.length ≤ 1000000 := by have := hI.wf.sites; omega
  have hst : ∀ xp : Nat,StI (t + 1) (some P) ∧ ∀ pp,pvO pp (some P) = pvO pp (some P) := fun _ => ⟨hI.mono (Nat.le_succ t),fun _ => rfl⟩
  cases hcl : claimedB P.sites.length l with
  | false =>
   refine ⟨270,[],fun _ => some P,hst,by simp,fun pp tag w v hN hok hx => ?_,fun q tag w v xp hN hok hx => ?_⟩
   ·obtain ⟨h1,rfl⟩ := hN
    refine (propose_claim n h1 hok (fun SA scap => ?_)).mono fun e w' h => ⟨0,ntook_err (o := some P) ⟨h1,rfl⟩ h⟩
    rcases hx with ⟨hr,he⟩ | ⟨rfl,A,cap,rfl,hcap⟩
    ·have := claimed_ok P.sites.length SA scap l w hr hok hs
     rw [hcl] at this
     exact this
    ·exact (claimed_nil SA A P.sites.length scap cap w).mono fun e w' ⟨a,b⟩ => ⟨a,by rw [b]; exact Fr.refl hok⟩
   ·refine (rpropose_claim n hN hok (fun w1 hf hP => ?_)).mono fun e w' h => rtook_err (o := some P) hN h
    rcases hx with ⟨hr,he⟩ | ⟨rfl,A,cap,rfl,hcap⟩
    ·exact rright_val l false hcl hP (hr.frF hf) hf.dom
    ·exact (rright_nil (k := 0) A cap w1).mono fun e w' ⟨a,b⟩ => ⟨a,by rw [b]; exact Fr.refl hf.dom⟩
  | true =>
   obtain ⟨c,hc0⟩ := claimed_head hcl
   have hll := (claimed_of hcl).len
   have hrd : ∀ {tag : TG} {w : World} {v : Value},RdX tag w v l → Rd 2 w v l.length (claims l) := fun hx => by
    rcases hx with ⟨h,_⟩ | ⟨rfl,_⟩
    ·exact h
    ·simp at hc0
   by_cases a1 : n < 0
   ·refine ⟨1,[],fun _ => some P,hst,by simp,fun pp tag w v hN hok hx => ?_,fun q tag w v xp hN hok hx => ?_⟩
    ·obtain ⟨h1,rfl⟩ := hN
     exact (propose_low n l h1 hok (hrd hx) hs hcl a1).mono fun e w' h => ⟨0,ntook_err (o := some P) ⟨h1,rfl⟩ h⟩
    ·exact (rpropose_low n l hN hok (hrd hx) hcl a1).mono fun e w' h => rtook_err (o := some P) hN h
   ·by_cases a2 : 2147483647 < n
    ·refine ⟨1,[],fun _ => some P,hst,by simp,fun pp tag w v hN hok hx => ?_,fun q tag w v xp hN hok hx => ?_⟩
     ·obtain ⟨h1,rfl⟩ := hN
      exact (propose_high n l h1 hok (hrd hx) hs hcl a1 a2).mono fun e w' h => ⟨0,ntook_err (o := some P) ⟨h1,rfl⟩ h⟩
     ·exact (rpropose_high n l hN hok (hrd hx) hcl a1 a2).mono fun e w' h => rtook_err (o := some P) hN h
    ·cases hf : find P.props n with
     | some x =>
      refine ⟨1,[],fun _ => some P,hst,by simp,fun pp tag w v hN hok hx => ?_,fun q tag w v xp hN hok hx => ?_⟩
      ·obtain ⟨h1,rfl⟩ := hN
       exact (propose_dup n l h1 hok (hrd hx) hs hcl a1 a2 hf).mono fun e w' h => ⟨0,ntook_err (o := some P) ⟨h1,rfl⟩ h⟩
      ·exact (rpropose_dup n l hN hok (hrd hx) hcl a1 a2 hf).mono fun e w' h => rtook_err (o := some P) hN h
     | none =>
      have hnp := hI.np
      refine ⟨0,(proposeM P n l 0).out,fun xp => some { proposeM P n l xp with out := [],came := [] },fun xp => ⟨propose_inv hI xp hcl hf,fun _ => rfl⟩,by rw [(proposeM_facts P n l 0 hll.1 hI.out).2.2.2]; decide,fun pp tag w v hN hok hx => ?_,fun q tag w v xp hN hok hx => ?_⟩
      ·obtain ⟨h1,rfl⟩ := hN
       refine (propose_ok n l h1 hok (hrd hx) hcl (by omega) (by omega) hf (by omega) hs (by rw [hI.out]; simp)).mono ?_
       rintro e w' ⟨ov,cv,rfl,tag',xp,r1,r2,r3,r4⟩
       obtain ⟨f1,f2,f3,f4⟩ := proposeM_facts P n l xp hll.1 hI.out
       rw [f1] at r1
       rw [hI.came] at r2
       obtain ⟨OA,ocap,rfl,_,_⟩ := r1.form
       obtain ⟨CA,ccap,rfl,_,_⟩ := r2.form
       exact ⟨xp,OA,ocap,CA,ccap,rfl,tag',.inl ⟨_,rfl,r1⟩,.inl ⟨_,rfl,r2⟩,⟨r3,f3⟩,r4⟩
      ·refine (rpropose_ok (R := 611) n l hN hok (by decide) (by decide) (hrd hx) hcl (by omega) (by omega) hf (by omega) hI.out hI.came).mono ?_
       rintro e w' ⟨ov,cv,tag',rfl,r1,r2,r3,r4⟩
       rw [(proposeM_facts P n l 0 hll.1 hI.out).2.1,hI.came] at r2
       obtain ⟨OA,ocap,rfl,_,_⟩ := r1.form
       obtain ⟨CA,ccap,rfl,_,_⟩ := r2.form
       exact ⟨OA,ocap,CA,ccap,rfl,tag',.inl ⟨_,rfl,r1⟩,.inl ⟨_,rfl,r2⟩,RPRep.propose xp r3 hll.1,r4⟩
theorem drop_both (o : Option PlaceM) (I : StI t o) (ht : t ≤ 1000) (n : Int) : ∃ (E : Int) (lo : List Post) (o' : Option PlaceM),StI (t + 1) o' ∧ (∀ pp,pvO pp o' = pvO pp o) ∧ lo.length ≤ 1000000 ∧
  (∀ (pp : Nat) (tag : TG) (w : World),NO pp tag w o → TagOk tag w → Calls Try.prog 23 #[pvO pp o,.int .i64 n] w (NDropV pp E lo o' tag w)) ∧
  (∀ (q : Nat) (tag : TG) (w : World),RO q tag w o → TagOk tag w → Calls Try.prog 24 #[pvO q o,.int .i64 n] w (RDropV q E lo o' tag w)) := by
 cases o with
 | none => exact ⟨271,[],none,trivial,fun _ => rfl,by simp,fun pp tag w _ hok => (nil23 w n).mono fun e w' h => ndrop_err trivial hok h,fun q tag w _ hok => (rnil24 w n).mono fun e w' h => rdrop_err trivial hok h⟩
 | some P =>
  have hI : PInv P t := I
  cases hf : find P.props n with
  | none =>
   refine ⟨3,[],some P,hI.mono (Nat.le_succ t),fun _ => rfl,by simp,fun pp tag w hN hok => ?_,fun q tag w hN hok => ?_⟩
   ·obtain ⟨h1,rfl⟩ := hN
    exact (drop_none h1 hf).mono fun e w' h => ndrop_err (o := some P) ⟨h1,rfl⟩ hok h
   ·exact (rdrop_none hN hf).mono fun e w' h => rdrop_err (o := some P) hN hok h
  | some x =>
   have hm := find_mem hf
   by_cases hst : x.state = 1
   ·have hlt := hI.wf.opens _ _ hm hst
    have hfew := hI.wf.few _ _ hm
    obtain ⟨c,hc⟩ : ∃ c,x.claims[x.granted]? = some c := ⟨_,List.getElem?_eq_getElem hlt⟩
    have hd : (dropM P n x).ptr = P.ptr ∧ (dropM P n x).out.length ≤ 65 := by
     have hs := freeM_same n (x.claims.take x.granted) (setProp P n { x with state := 4 })
     unfold dropM
     rw [hc]
     refine ⟨hs.1,?_⟩
     have h7 := hs.2.2.2.2.2.2.1
     generalize freeM (setProp P n { x with state := 4 }) n (x.claims.take x.granted) = Q at h7 ⊢
     simp only [PlaceM.send,List.length_append,List.length_cons,List.length_nil]
     simp [setProp,hI.out] at h7
     omega
    refine ⟨0,(dropM P n x).out,some { dropM P n x with out := [],came := [] },drop_inv hI hf,fun _ => rfl,by omega,fun pp tag w hN hok => ?_,fun q tag w hN hok => ?_⟩
    ·obtain ⟨h1,rfl⟩ := hN
     refine (drop_ok h1 hok hI.wf hf hst (by rw [hI.out]; simp)).mono ?_
     rintro e w' ⟨ov,rfl,tag',r1,r2,r3⟩
     obtain ⟨OA,ocap,rfl,_,_⟩ := r1.form
     exact ⟨OA,ocap,rfl,tag',.inl ⟨_,rfl,r1⟩,⟨r2,hd.1⟩,r3⟩
    ·refine (rdrop_ok (R := 611) hN hok (by decide) (by decide) hI.wf hI.nd hf hst hI.out).mono ?_
     rintro e w' ⟨ov,tag',rfl,r1,r2,r3⟩
     obtain ⟨OA,ocap,rfl,_,_⟩ := r1.form
     exact ⟨OA,ocap,rfl,tag',.inl ⟨_,rfl,r1⟩,RPRep.told r2,r3⟩
   ·refine ⟨273,[],some P,hI.mono (Nat.le_succ t),fun _ => rfl,by simp,fun pp tag w hN hok => ?_,fun q tag w hN hok => ?_⟩
    ·obtain ⟨h1,rfl⟩ := hN
     exact (drop_over h1 hf hst).mono fun e w' h => ndrop_err (o := some P) ⟨h1,rfl⟩ hok h
    ·exact (rdrop_over hN hf hst).mono fun e w' h => rdrop_err (o := some P) hN hok h
theorem tells_both (o : Option PlaceM) (I : StI t o) (ht : t ≤ 1000) (pp q : Nat) : Tells (pvO pp o) (pvO q o) (fun tag w => NO pp tag w o ∧ RO q tag w o) := by
 refine ⟨fun h hf => ⟨h.1.frF hf,h.2.frF hf⟩,fun n => ?_,fun n => ?_⟩
 ·cases o with
  | none => exact .inl ⟨271,by decide,fun tag w _ hok => ⟨ritem_nil n hok,nil88 w n,nil89 w n,nil90 w n⟩⟩
  | some P =>
   have hI : PInv P t := I
   by_cases hown : ∃ j : Nat,n = j ∧ P.sites[j]? = some P.no
   ·obtain ⟨j,rfl,hj⟩ := hown
    obtain ⟨it,hit⟩ := (hI.home _ _ hj).1 rfl
    have hq : it.queue.length ≤ 100000 := by have := (hI.it _ _ hit).sum; omega
    refine .inr ⟨it.version,if it.held = true then it.lk.prop else -1,it.queue,hq,fun tag w hG hok => ?_⟩
    obtain ⟨⟨h1,rfl⟩,h2⟩ := hG
    refine ⟨(ritem_ok h2 hok hit hj).mono ?_,version_ok h1 hit,holder_ok h1 hit,?_⟩
    ·rintro e w' ⟨WA,wcap,TA,tl,tcap,rfl,r1,r2⟩
     exact ⟨WA,wcap,TA,tl,tcap,_,rfl,r1,r2⟩
    ·obtain ⟨t7,ht7,_,hfr7⟩ := fresh_tag tag w.heap.size 700 1
     refine (pwaits_ok h1 hok hit hq hfr7).mono ?_
     rintro e w' ⟨v,rfl,tag',r1,r2⟩
     exact ⟨v,rfl,tag',t7,r1,r2⟩
   ·have hn : n < 0 ∨ (P.sites.length : Int) ≤ n ∨ ∃ (j : Nat) (s : Int),n = j ∧ P.sites[j]? = some s ∧ s ≠ P.no := by
     by_cases b1 : n < 0
     ·exact .inl b1
     by_cases b2 : (P.sites.length : Int) ≤ n
     ·exact .inr (.inl b2)
     have hl : n.toNat < P.sites.length := by omega
     refine .inr (.inr ⟨n.toNat,P.sites[n.toNat],by omega,List.getElem?_eq_getElem hl,fun e => hown ⟨n.toNat,by omega,?_⟩⟩)
     rw [← e]
     exact List.getElem?_eq_getElem hl
    have hn' : n < 0 ∨ (P.items.length : Int) ≤ n ∨ ∃ j : Nat,n = j ∧ P.items[j]? = some none := by
     rw [hI.wf.items]
     rcases hn with h | h | ⟨j,s,rfl,hs,hne⟩
     ·exact .inl h
     ·exact .inr (.inl h)
     ·refine .inr (.inr ⟨j,rfl,?_⟩)
      have hl := (List.getElem?_eq_some_iff.1 hs).1
      have hl2 : j < P.items.length := by rw [hI.wf.items]; exact hl
      have hg := List.getElem?_eq_getElem hl2
      cases hx : P.items[j] with
      | none => rw [hg,hx]
      | some it => exact absurd ((hI.home j s hs).2 ⟨it,by rw [hg,hx]⟩) hne
    refine .inl ⟨3,by decide,fun tag w hG hok => ?_⟩
    obtain ⟨⟨h1,rfl⟩,h2⟩ := hG
    exact ⟨ritem_no n h2 hok hn,version_no n h1 hn',holder_no n h1 hn',pwaits_no n h1 hn'⟩
 ·cases o with
  | none => exact ⟨0,271,fun tag w _ hok => ⟨nil45 w n,rnil92 w n⟩⟩
  | some P =>
   cases hf : find P.props n with
   | none =>
    refine ⟨0,3,fun tag w hG hok => ?_⟩
    obtain ⟨⟨h1,rfl⟩,h2⟩ := hG
    have hs := status_ok n h1
    rw [hf] at hs
    exact ⟨hs,rstatus_none h2 hf⟩
   | some x =>
    refine ⟨x.state,0,fun tag w hG hok => ?_⟩
    obtain ⟨⟨h1,rfl⟩,h2⟩ := hG
    have hs := status_ok n h1
    rw [hf] at hs
    exact ⟨hs,rstatus_some h2 hf⟩
end
end Go.Proofs.Ytclkokkppgchfaa
