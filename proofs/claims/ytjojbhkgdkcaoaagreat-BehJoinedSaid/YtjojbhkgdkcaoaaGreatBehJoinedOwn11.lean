/- A part of the proof: texts of this session, joined. -/
import Derived.Test.YtjojbhkgdkcaoaaGreatBehJoinedOwn10
import Derived.Test.YtjojbhkgdkcaoaaGreatBehJoinedOwn5
import Derived.Test.YtjojbhkgdkcaoaaGreatBehJoinedOwn7
import Derived.Test.YtjojbhkgdkcaoaaGreatRows
import Derived.ProofKit
import Derived.Deep.Slices
import Derived.Deep.Fields
import Derived.ChangeSame
import Derived.Lib.SmallJoins
import Derived.OpenShut
import Derived.ChangeOld
import Derived.Below
import Derived.JoinedOf
import Derived.Test.YtjojbhkgdkcaoaaGreatShort
set_option linter.unusedSimpArgs false
set_option linter.unusedVariables false
set_option maxHeartbeats 25600000
set_option maxRecDepth 100000
namespace Go.Proofs.YtjojbhkgdkcaoaaGreat
open Go Go.RowKit Go.Bh Go.Shelf Go.Proofs.YtjojbhkgdkcaoaaGreatW.PrintLast
theorem alloc3_get (w : World) (x y z : Obj) : (((w.alloc x).alloc y).alloc z).heap[w.heap.size]? = some x ∧ (((w.alloc x).alloc y).alloc z).heap[w.heap.size + 1]? = some y ∧ (((w.alloc x).alloc y).alloc z).heap[w.heap.size + 1 + 1]? = some z := by
 have h : ∀ (w : World) (o : Obj),(w.alloc o).heap = w.heap.push o := fun _ _ => rfl
 refine ⟨?_,?_,?_⟩ <;> (simp only [h,Array.getElem?_push,Array.size_push]; (repeat' split) <;> first | rfl | omega | simp_all)
theorem joined_walk (a b c : Ex) (w : World) (va vb vc : Value) (ha : Is w a.l va) (hb : Is w b.l vb) (hc : Is w c.l vc) :
  Calls Tryz.prog 5 #[.agg #[.bool a.ends,va],.agg #[.bool b.ends,vb],.agg #[.bool c.ends,vc]] w fun e w' => e = .returned (.bool true) ∧ Below w.heap.size w w' := by
 obtain ⟨ae,al⟩ := a
 obtain ⟨be,bl⟩ := b
 obtain ⟨ce,cl⟩ := c
 dsimp only at ha hb hc ⊢
 obtain ⟨A,acap,rfl,h1,h2⟩ := VAt.slice ha
 obtain ⟨B,bcap,rfl,h3,h4⟩ := VAt.slice hb
 obtain ⟨C,ccap,rfl,h5,h6⟩ := VAt.slice hc
 obtain ⟨W1,hW1⟩ : ∃ y,y = ((w.alloc (.cells #[.bool ae,.slice A al.length acap] 46)).alloc (.cells #[.bool be,.slice B bl.length bcap] 46)).alloc (.cells #[.bool ce,.slice C cl.length ccap] 46) := ⟨_,rfl⟩
 have hz1 : W1.heap.size = w.heap.size + 3 := by rw [hW1]; simp
 have hb1 : Below w.heap.size w W1 := by rw [hW1]; exact (((Below.refl _ w).alloc (Nat.le_refl _) _).alloc (by simp) _).alloc (by simp; omega) _
 obtain ⟨k0,k1,k2⟩ : W1.heap[w.heap.size]? = some (.cells #[.bool ae,.slice A al.length acap] 46) ∧ W1.heap[w.heap.size + 1]? = some (.cells #[.bool be,.slice B bl.length bcap] 46) ∧ W1.heap[w.heap.size + 1 + 1]? = some (.cells #[.bool ce,.slice C cl.length ccap] 46) := by rw [hW1]; exact alloc3_get w _ _ _
 have HA := Lib.hid (Vt.below ha hb1)
 have HB := Lib.hid (Vt.below hb hb1)
 have HC := Lib.hid (Vt.below hc hb1)
 have K0 := Lib.hid k0
 have K1 := Lib.hid k1
 have K2 := Lib.hid k2
 have HB1 := Lib.hid hb1
 have HW1 := Lib.hid hW1
 clear ha hb hc k0 k1 k2 hb1 hW1
 go_enter Tryz.func5,Tryz.ntmps5
 go_upto_region 1 with fail
 rw [← HW1.out]
 go_upto_region 3 with (
  go_at_call 15
  refine (sane_ok _).mono ?_
  rintro e w2 ⟨rfl,hb2⟩
  have HB2 := Lib.hid hb2
  clear hb2)
 have hz2 := HB2.out.size
 have j0 := (HB2.out.block _ (by omega)).trans K0.out
 have j1 := (HB2.out.block _ (by omega)).trans K1.out
 have j2 := (HB2.out.block _ (by omega)).trans K2.out
 have e0 := cell_at j0 1 rfl
 have e1 := cell_at j1 1 rfl
 have e2 := cell_at j2 1 rfl
 have f0 := cell_at j0 0 rfl
 have f1 := cell_at j1 0 rfl
 have f2 := cell_at j2 0 rfl
 have J0 := Lib.hid j0
 have J1 := Lib.hid j1
 have J2 := Lib.hid j2
 clear j0 j1 j2
 go_wp2_with fail
 obtain ⟨W3,hW3⟩ : ∃ y,y = w2.alloc (.cells #[.pointer (some ⟨w.heap.size,0,none⟩),.pointer (some ⟨w.heap.size + 1,0,none⟩),.pointer (some ⟨w.heap.size + 1 + 1,0,none⟩)] 47) := ⟨_,rfl⟩
 rw [← hW3]
 have hz3 : W3.heap.size = w2.heap.size + 1 := by rw [hW3]; simp
 have p0 : W3.cell? ⟨w2.heap.size,0,none⟩ = some (.pointer (some ⟨w.heap.size,0,none⟩)) := by rw [hW3]; go_simp
 have p1 : W3.cell? ⟨w2.heap.size,1,none⟩ = some (.pointer (some ⟨w.heap.size + 1,0,none⟩)) := by rw [hW3]; go_simp
 have p2 : W3.cell? ⟨w2.heap.size,2,none⟩ = some (.pointer (some ⟨w.heap.size + 1 + 1,0,none⟩)) := by rw [hW3]; go_simp
 have hb3 : Below w2.heap.size w2 W3 := by rw [hW3]; exact (Below.refl _ w2).alloc (Nat.le_refl _) _
 have e0 := Below.cellOf hb3 e0
 have e1 := Below.cellOf hb3 e1
 have e2 := Below.cellOf hb3 e2
 have f0 := Below.cellOf hb3 f0
 have f1 := Below.cellOf hb3 f1
 have f2 := Below.cellOf hb3 f2
 have HB3 := Lib.hid hb3
 have HW3 := Lib.hid hW3
 clear hb3 hW3
 have HBw := Lib.hid (HB1.out.trans ((HB2.out.mono HB1.out.size).trans (HB3.out.mono (by omega : w.heap.size ≤ w2.heap.size))))
 go_loopw [27] (fun i wr => ∃ n : Nat,n ≤ 3 ∧ i = .int .i64 n ∧ wr = W3 ∧ Hid (1 ≤ n → al.length ≤ 100 ∧ (ae = false → al = [])) ∧ Hid (2 ≤ n → bl.length ≤ 100 ∧ (be = false → bl = [])) ∧ Hid (3 ≤ n → cl.length ≤ 100 ∧ (ce = false → cl = []))) (fun i _ => 3 - (intOf i).toNat)
 case atStart => exact ⟨0,by omega,rfl,rfl,Lib.hid (by omega),Lib.hid (by omega),Lib.hid (by omega)⟩
 case round =>
  obtain ⟨n,hn,rfl,rfl,G0,G1,G2⟩ := hrel
  obtain rfl | rfl | rfl | rfl : n = 0 ∨ n = 1 ∨ n = 2 ∨ n = 3 := by omega
  ·by_cases h100 : al.length ≤ 100
   ·have H100 := Lib.hid h100
    have t1 : ¬ (100 : Int) < (al.length : Int) := by omega
    clear h100
    cases ae
    ·by_cases hz : al = []
     ·have HZ := Lib.hid hz
      have t2 : ¬ (0 : Int) < (al.length : Int) := by rw [hz]; simp
      clear hz
      go_wp2_with fail
      go_roundw
      case rel => exact ⟨0 + 1,by omega,by go_num,trivial,Lib.hid (fun _ => ⟨H100.out,fun _ => HZ.out⟩),Lib.hid (by omega),Lib.hid (by omega)⟩
      case measure => simp [intOf]
     ·have t2 : (0 : Int) < (al.length : Int) := by have := List.length_pos_iff.2 hz; omega
      clear hz
      go_wp2_with fail
      go_ret
      exact ⟨rfl,HBw.out⟩
    ·go_wp2_with fail
     go_roundw
     case rel => exact ⟨0 + 1,by omega,by go_num,trivial,Lib.hid (fun _ => ⟨H100.out,fun h => by cases h⟩),Lib.hid (by omega),Lib.hid (by omega)⟩
     case measure => simp [intOf]
   ·have t1 : (100 : Int) < (al.length : Int) := by omega
    clear h100
    go_wp2_with fail
    go_ret
    exact ⟨rfl,HBw.out⟩
  ·by_cases h100 : bl.length ≤ 100
   ·have H100 := Lib.hid h100
    have t1 : ¬ (100 : Int) < (bl.length : Int) := by omega
    clear h100
    cases be
    ·by_cases hz : bl = []
     ·have HZ := Lib.hid hz
      have t2 : ¬ (0 : Int) < (bl.length : Int) := by rw [hz]; simp
      clear hz
      go_wp2_with fail
      go_roundw
      case rel => exact ⟨1 + 1,by omega,by go_num,trivial,Lib.hid (fun h => G0.out (by omega)),Lib.hid (fun _ => ⟨H100.out,fun _ => HZ.out⟩),Lib.hid (by omega)⟩
      case measure => simp [intOf]
     ·have t2 : (0 : Int) < (bl.length : Int) := by have := List.length_pos_iff.2 hz; omega
      clear hz
      go_wp2_with fail
      go_ret
      exact ⟨rfl,HBw.out⟩
    ·go_wp2_with fail
     go_roundw
     case rel => exact ⟨1 + 1,by omega,by go_num,trivial,Lib.hid (fun h => G0.out (by omega)),Lib.hid (fun _ => ⟨H100.out,fun h => by cases h⟩),Lib.hid (by omega)⟩
     case measure => simp [intOf]
   ·have t1 : (100 : Int) < (bl.length : Int) := by omega
    clear h100
    go_wp2_with fail
    go_ret
    exact ⟨rfl,HBw.out⟩
  ·by_cases h100 : cl.length ≤ 100
   ·have H100 := Lib.hid h100
    have t1 : ¬ (100 : Int) < (cl.length : Int) := by omega
    clear h100
    cases ce
    ·by_cases hz : cl = []
     ·have HZ := Lib.hid hz
      have t2 : ¬ (0 : Int) < (cl.length : Int) := by rw [hz]; simp
      clear hz
      go_wp2_with fail
      go_roundw
      case rel => exact ⟨2 + 1,by omega,by go_num,trivial,Lib.hid (fun h => G0.out (by omega)),Lib.hid (fun h => G1.out (by omega)),Lib.hid (fun _ => ⟨H100.out,fun _ => HZ.out⟩)⟩
      case measure => simp [intOf]
     ·have t2 : (0 : Int) < (cl.length : Int) := by have := List.length_pos_iff.2 hz; omega
      clear hz
      go_wp2_with fail
      go_ret
      exact ⟨rfl,HBw.out⟩
    ·go_wp2_with fail
     go_roundw
     case rel => exact ⟨2 + 1,by omega,by go_num,trivial,Lib.hid (fun h => G0.out (by omega)),Lib.hid (fun h => G1.out (by omega)),Lib.hid (fun _ => ⟨H100.out,fun h => by cases h⟩)⟩
     case measure => simp [intOf]
   ·have t1 : (100 : Int) < (cl.length : Int) := by omega
    clear h100
    go_wp2_with fail
    go_ret
    exact ⟨rfl,HBw.out⟩
  ·obtain ⟨hl0,hea⟩ := G0.out (by omega)
   obtain ⟨hl1,heb⟩ := G1.out (by omega)
   obtain ⟨hl2,hec⟩ := G2.out (by omega)
   have HEA := Lib.hid hea
   have HEB := Lib.hid heb
   have HEC := Lib.hid hec
   have HI0 := Lib.hid (Vt.below HA.out ((HB2.out.trans (HB3.out.mono (by omega : W1.heap.size ≤ w2.heap.size)))))
   have HI1 := Lib.hid (Vt.below HB.out ((HB2.out.trans (HB3.out.mono (by omega : W1.heap.size ≤ w2.heap.size)))))
   have HI2 := Lib.hid (Vt.below HC.out ((HB2.out.trans (HB3.out.mono (by omega : W1.heap.size ≤ w2.heap.size)))))
   clear hea heb hec
   obtain ⟨⟨d3,l3⟩,hd⟩ : ∃ z,z = joinE ⟨ae,al⟩ ⟨be,bl⟩ := ⟨_,rfl⟩
   obtain ⟨B3,hB⟩ : ∃ z,z = joinB ⟨ae,al⟩ ⟨be,bl⟩ := ⟨_,rfl⟩
   have hl3 := join_len hd hl0 hl1
   have HD3 := Lib.hid hd
   have HDB3 := Lib.hid hB
   clear hd hB
   go_wp2_with fail
   refine (join_at HD3.out HDB3.out HI0.out HI1.out (by first | omega | simp) (by first | omega | simp)).mono ?_
   rintro e x3 ⟨U3,c3,rfl,HI3,hU,hU',HX3⟩
   have hz3 := HX3.out.size
   have e0 := Below.cellOf HX3.out e0
   have f0 := Below.cellOf HX3.out f0
   have HI0 := Lib.hid (Vt.below HI0.out HX3.out)
   have g0 : w.heap.size < x3.heap.size := by omega
   have e1 := Below.cellOf HX3.out e1
   have f1 := Below.cellOf HX3.out f1
   have HI1 := Lib.hid (Vt.below HI1.out HX3.out)
   have g1 : w.heap.size + 1 < x3.heap.size := by omega
   have e2 := Below.cellOf HX3.out e2
   have f2 := Below.cellOf HX3.out f2
   have HI2 := Lib.hid (Vt.below HI2.out HX3.out)
   have g2 : w.heap.size + 1 + 1 < x3.heap.size := by omega
   dsimp only
   go_upto_region 12 with fail
   obtain ⟨X3,hX⟩ : ∃ y,y = x3.alloc (.cells #[.bool d3,.slice U3 l3.length c3] 46) := ⟨_,rfl⟩
   rw [← hX]
   have hy3 : X3.heap.size = x3.heap.size + 1 := by rw [hX]; simp
   have e3 : X3.cell? ⟨x3.heap.size,1,none⟩ = some (.slice U3 l3.length c3) := by rw [hX]; go_simp
   have f3 : X3.cell? ⟨x3.heap.size,0,none⟩ = some (.bool d3) := by rw [hX]; go_simp
   have hbx : Below x3.heap.size x3 X3 := by rw [hX]; exact (Below.refl _ _).alloc (Nat.le_refl _) _
   have e0 := Below.cellOf hbx e0
   have f0 := Below.cellOf hbx f0
   have HI0 := Lib.hid (Vt.below HI0.out hbx)
   have e1 := Below.cellOf hbx e1
   have f1 := Below.cellOf hbx f1
   have HI1 := Lib.hid (Vt.below HI1.out hbx)
   have e2 := Below.cellOf hbx e2
   have f2 := Below.cellOf hbx f2
   have HI2 := Lib.hid (Vt.below HI2.out hbx)
   have HI3 := Lib.hid (Vt.below HI3.out hbx)
   have HBw := Lib.hid (HBw.out.trans ((HX3.out.trans (hbx.mono hz3)).mono (by omega : w.heap.size ≤ wr.heap.size)))
   clear hbx hX
   obtain ⟨⟨d4,l4⟩,hd⟩ : ∃ z,z = joinE ⟨be,bl⟩ ⟨ae,al⟩ := ⟨_,rfl⟩
   obtain ⟨B4,hB⟩ : ∃ z,z = joinB ⟨be,bl⟩ ⟨ae,al⟩ := ⟨_,rfl⟩
   have hl4 := join_len hd hl1 hl0
   have HD4 := Lib.hid hd
   have HDB4 := Lib.hid hB
   clear hd hB
   go_wp2_with fail
   refine (join_at HD4.out HDB4.out HI1.out HI0.out (by first | omega | simp) (by first | omega | simp)).mono ?_
   rintro e x4 ⟨U4,c4,rfl,HI4,hU,hU',HX4⟩
   have hz4 := HX4.out.size
   have e0 := Below.cellOf HX4.out e0
   have f0 := Below.cellOf HX4.out f0
   have HI0 := Lib.hid (Vt.below HI0.out HX4.out)
   have g0 : w.heap.size < x4.heap.size := by omega
   have e1 := Below.cellOf HX4.out e1
   have f1 := Below.cellOf HX4.out f1
   have HI1 := Lib.hid (Vt.below HI1.out HX4.out)
   have g1 : w.heap.size + 1 < x4.heap.size := by omega
   have e2 := Below.cellOf HX4.out e2
   have f2 := Below.cellOf HX4.out f2
   have HI2 := Lib.hid (Vt.below HI2.out HX4.out)
   have g2 : w.heap.size + 1 + 1 < x4.heap.size := by omega
   have e3 := Below.cellOf HX4.out e3
   have f3 := Below.cellOf HX4.out f3
   have HI3 := Lib.hid (Vt.below HI3.out HX4.out)
   have g3 : x3.heap.size < x4.heap.size := by omega
   dsimp only
   go_upto_region 13 with fail
   obtain ⟨X4,hX⟩ : ∃ y,y = x4.alloc (.cells #[.bool d4,.slice U4 l4.length c4] 46) := ⟨_,rfl⟩
   rw [← hX]
   have hy4 : X4.heap.size = x4.heap.size + 1 := by rw [hX]; simp
   have e4 : X4.cell? ⟨x4.heap.size,1,none⟩ = some (.slice U4 l4.length c4) := by rw [hX]; go_simp
   have f4 : X4.cell? ⟨x4.heap.size,0,none⟩ = some (.bool d4) := by rw [hX]; go_simp
   have hbx : Below x4.heap.size x4 X4 := by rw [hX]; exact (Below.refl _ _).alloc (Nat.le_refl _) _
   have e0 := Below.cellOf hbx e0
   have f0 := Below.cellOf hbx f0
   have HI0 := Lib.hid (Vt.below HI0.out hbx)
   have e1 := Below.cellOf hbx e1
   have f1 := Below.cellOf hbx f1
   have HI1 := Lib.hid (Vt.below HI1.out hbx)
   have e2 := Below.cellOf hbx e2
   have f2 := Below.cellOf hbx f2
   have HI2 := Lib.hid (Vt.below HI2.out hbx)
   have e3 := Below.cellOf hbx e3
   have f3 := Below.cellOf hbx f3
   have HI3 := Lib.hid (Vt.below HI3.out hbx)
   have HI4 := Lib.hid (Vt.below HI4.out hbx)
   have HBw := Lib.hid (HBw.out.trans ((HX4.out.trans (hbx.mono hz4)).mono (by omega : w.heap.size ≤ X3.heap.size)))
   clear hbx hX
   obtain ⟨⟨d5,l5⟩,hd⟩ : ∃ z,z = joinE ⟨ae,al⟩ ⟨ae,al⟩ := ⟨_,rfl⟩
   obtain ⟨B5,hB⟩ : ∃ z,z = joinB ⟨ae,al⟩ ⟨ae,al⟩ := ⟨_,rfl⟩
   have hl5 := join_len hd hl0 hl0
   have HD5 := Lib.hid hd
   have HDB5 := Lib.hid hB
   clear hd hB
   go_wp2_with fail
   refine (join_at HD5.out HDB5.out HI0.out HI0.out (by first | omega | simp) (by first | omega | simp)).mono ?_
   rintro e x5 ⟨U5,c5,rfl,HI5,hU,hU',HX5⟩
   have hz5 := HX5.out.size
   have e0 := Below.cellOf HX5.out e0
   have f0 := Below.cellOf HX5.out f0
   have HI0 := Lib.hid (Vt.below HI0.out HX5.out)
   have g0 : w.heap.size < x5.heap.size := by omega
   have e1 := Below.cellOf HX5.out e1
   have f1 := Below.cellOf HX5.out f1
   have HI1 := Lib.hid (Vt.below HI1.out HX5.out)
   have g1 : w.heap.size + 1 < x5.heap.size := by omega
   have e2 := Below.cellOf HX5.out e2
   have f2 := Below.cellOf HX5.out f2
   have HI2 := Lib.hid (Vt.below HI2.out HX5.out)
   have g2 : w.heap.size + 1 + 1 < x5.heap.size := by omega
   have e3 := Below.cellOf HX5.out e3
   have f3 := Below.cellOf HX5.out f3
   have HI3 := Lib.hid (Vt.below HI3.out HX5.out)
   have g3 : x3.heap.size < x5.heap.size := by omega
   have e4 := Below.cellOf HX5.out e4
   have f4 := Below.cellOf HX5.out f4
   have HI4 := Lib.hid (Vt.below HI4.out HX5.out)
   have g4 : x4.heap.size < x5.heap.size := by omega
   dsimp only
   go_upto_region 14 with fail
   obtain ⟨X5,hX⟩ : ∃ y,y = x5.alloc (.cells #[.bool d5,.slice U5 l5.length c5] 46) := ⟨_,rfl⟩
   rw [← hX]
   have hy5 : X5.heap.size = x5.heap.size + 1 := by rw [hX]; simp
   have e5 : X5.cell? ⟨x5.heap.size,1,none⟩ = some (.slice U5 l5.length c5) := by rw [hX]; go_simp
   have f5 : X5.cell? ⟨x5.heap.size,0,none⟩ = some (.bool d5) := by rw [hX]; go_simp
   have hbx : Below x5.heap.size x5 X5 := by rw [hX]; exact (Below.refl _ _).alloc (Nat.le_refl _) _
   have e0 := Below.cellOf hbx e0
   have f0 := Below.cellOf hbx f0
   have HI0 := Lib.hid (Vt.below HI0.out hbx)
   have e1 := Below.cellOf hbx e1
   have f1 := Below.cellOf hbx f1
   have HI1 := Lib.hid (Vt.below HI1.out hbx)
   have e2 := Below.cellOf hbx e2
   have f2 := Below.cellOf hbx f2
   have HI2 := Lib.hid (Vt.below HI2.out hbx)
   have e3 := Below.cellOf hbx e3
   have f3 := Below.cellOf hbx f3
   have HI3 := Lib.hid (Vt.below HI3.out hbx)
   have e4 := Below.cellOf hbx e4
   have f4 := Below.cellOf hbx f4
   have HI4 := Lib.hid (Vt.below HI4.out hbx)
   have HI5 := Lib.hid (Vt.below HI5.out hbx)
   have HBw := Lib.hid (HBw.out.trans ((HX5.out.trans (hbx.mono hz5)).mono (by omega : w.heap.size ≤ X4.heap.size)))
   clear hbx hX
   obtain ⟨⟨d6,l6⟩,hd⟩ : ∃ z,z = joinE ⟨ae,al⟩ ⟨false,[]⟩ := ⟨_,rfl⟩
   obtain ⟨B6,hB⟩ : ∃ z,z = joinB ⟨ae,al⟩ ⟨false,[]⟩ := ⟨_,rfl⟩
   have hl6 := join_len hd hl0 (by simp)
   have HD6 := Lib.hid hd
   have HDB6 := Lib.hid hB
   clear hd hB
   go_wp2_with fail
   refine (join_at HD6.out HDB6.out HI0.out (is_nil _) (by first | omega | simp) (by first | omega | simp)).mono ?_
   rintro e x6 ⟨U6,c6,rfl,HI6,hU,hU',HX6⟩
   have hz6 := HX6.out.size
   have e0 := Below.cellOf HX6.out e0
   have f0 := Below.cellOf HX6.out f0
   have HI0 := Lib.hid (Vt.below HI0.out HX6.out)
   have g0 : w.heap.size < x6.heap.size := by omega
   have e1 := Below.cellOf HX6.out e1
   have f1 := Below.cellOf HX6.out f1
   have HI1 := Lib.hid (Vt.below HI1.out HX6.out)
   have g1 : w.heap.size + 1 < x6.heap.size := by omega
   have e2 := Below.cellOf HX6.out e2
   have f2 := Below.cellOf HX6.out f2
   have HI2 := Lib.hid (Vt.below HI2.out HX6.out)
   have g2 : w.heap.size + 1 + 1 < x6.heap.size := by omega
   have e3 := Below.cellOf HX6.out e3
   have f3 := Below.cellOf HX6.out f3
   have HI3 := Lib.hid (Vt.below HI3.out HX6.out)
   have g3 : x3.heap.size < x6.heap.size := by omega
   have e4 := Below.cellOf HX6.out e4
   have f4 := Below.cellOf HX6.out f4
   have HI4 := Lib.hid (Vt.below HI4.out HX6.out)
   have g4 : x4.heap.size < x6.heap.size := by omega
   have e5 := Below.cellOf HX6.out e5
   have f5 := Below.cellOf HX6.out f5
   have HI5 := Lib.hid (Vt.below HI5.out HX6.out)
   have g5 : x5.heap.size < x6.heap.size := by omega
   dsimp only
   go_upto_region 15 with fail
   obtain ⟨X6,hX⟩ : ∃ y,y = x6.alloc (.cells #[.bool d6,.slice U6 l6.length c6] 46) := ⟨_,rfl⟩
   rw [← hX]
   have hy6 : X6.heap.size = x6.heap.size + 1 := by rw [hX]; simp
   have e6 : X6.cell? ⟨x6.heap.size,1,none⟩ = some (.slice U6 l6.length c6) := by rw [hX]; go_simp
   have f6 : X6.cell? ⟨x6.heap.size,0,none⟩ = some (.bool d6) := by rw [hX]; go_simp
   have hbx : Below x6.heap.size x6 X6 := by rw [hX]; exact (Below.refl _ _).alloc (Nat.le_refl _) _
   have e0 := Below.cellOf hbx e0
   have f0 := Below.cellOf hbx f0
   have HI0 := Lib.hid (Vt.below HI0.out hbx)
   have e1 := Below.cellOf hbx e1
   have f1 := Below.cellOf hbx f1
   have HI1 := Lib.hid (Vt.below HI1.out hbx)
   have e2 := Below.cellOf hbx e2
   have f2 := Below.cellOf hbx f2
   have HI2 := Lib.hid (Vt.below HI2.out hbx)
   have e3 := Below.cellOf hbx e3
   have f3 := Below.cellOf hbx f3
   have HI3 := Lib.hid (Vt.below HI3.out hbx)
   have e4 := Below.cellOf hbx e4
   have f4 := Below.cellOf hbx f4
   have HI4 := Lib.hid (Vt.below HI4.out hbx)
   have e5 := Below.cellOf hbx e5
   have f5 := Below.cellOf hbx f5
   have HI5 := Lib.hid (Vt.below HI5.out hbx)
   have HI6 := Lib.hid (Vt.below HI6.out hbx)
   have HBw := Lib.hid (HBw.out.trans ((HX6.out.trans (hbx.mono hz6)).mono (by omega : w.heap.size ≤ X5.heap.size)))
   clear hbx hX
   have q1 : B3 = B4 := by rw [HDB3.out,HDB4.out]; exact joinB_comm _ _ _ _
   have q2 : true = B5 := by rw [HDB5.out]; exact (join_self _ _).1.symm
   have q3 : true = B6 := by rw [HDB6.out]; exact (join_noEnd HEA.out).1.symm
   subst q1
   subst q2
   subst q3
   have s1 := Lib.hid (show sameE ⟨d3,l3⟩ ⟨d4,l4⟩ = true by rw [HD3.out,HD4.out]; exact joinE_comm HEA.out HEB.out)
   have s2 := Lib.hid (show sameE ⟨d5,l5⟩ ⟨ae,al⟩ = true by rw [HD5.out]; exact (join_self _ _).2)
   have s3 := Lib.hid (show sameE ⟨d6,l6⟩ ⟨ae,al⟩ = true by rw [HD6.out]; exact (join_noEnd HEA.out).2)
   have g0 : w.heap.size < X6.heap.size := by omega
   have g1 : w.heap.size + 1 < X6.heap.size := by omega
   have g2 : w.heap.size + 1 + 1 < X6.heap.size := by omega
   have g3 : x3.heap.size < X6.heap.size := by omega
   have g4 : x4.heap.size < X6.heap.size := by omega
   have g5 : x5.heap.size < X6.heap.size := by omega
   have g6 : x6.heap.size < X6.heap.size := by omega
   go_wp2_with fail
   refine (same_at s1.out HI3.out HI4.out).mono ?_
   rintro e y1 ⟨rfl,HY⟩
   have hz := HY.out.size
   have e0 := Below.cellOf HY.out e0
   have f0 := Below.cellOf HY.out f0
   have HI0 := Lib.hid (Vt.below HI0.out HY.out)
   have g0 : w.heap.size < y1.heap.size := by omega
   have e1 := Below.cellOf HY.out e1
   have f1 := Below.cellOf HY.out f1
   have HI1 := Lib.hid (Vt.below HI1.out HY.out)
   have g1 : w.heap.size + 1 < y1.heap.size := by omega
   have e2 := Below.cellOf HY.out e2
   have f2 := Below.cellOf HY.out f2
   have HI2 := Lib.hid (Vt.below HI2.out HY.out)
   have g2 : w.heap.size + 1 + 1 < y1.heap.size := by omega
   have e3 := Below.cellOf HY.out e3
   have f3 := Below.cellOf HY.out f3
   have HI3 := Lib.hid (Vt.below HI3.out HY.out)
   have g3 : x3.heap.size < y1.heap.size := by omega
   have e4 := Below.cellOf HY.out e4
   have f4 := Below.cellOf HY.out f4
   have HI4 := Lib.hid (Vt.below HI4.out HY.out)
   have g4 : x4.heap.size < y1.heap.size := by omega
   have e5 := Below.cellOf HY.out e5
   have f5 := Below.cellOf HY.out f5
   have HI5 := Lib.hid (Vt.below HI5.out HY.out)
   have g5 : x5.heap.size < y1.heap.size := by omega
   have e6 := Below.cellOf HY.out e6
   have f6 := Below.cellOf HY.out f6
   have HI6 := Lib.hid (Vt.below HI6.out HY.out)
   have g6 : x6.heap.size < y1.heap.size := by omega
   have HBw := Lib.hid (HBw.out.trans (HY.out.mono (by omega : w.heap.size ≤ X6.heap.size)))
   clear HY
   dsimp only
   go_wp2_with fail
   refine (same_at s2.out HI5.out HI0.out).mono ?_
   rintro e y2 ⟨rfl,HY⟩
   have hz := HY.out.size
   have e0 := Below.cellOf HY.out e0
   have f0 := Below.cellOf HY.out f0
   have HI0 := Lib.hid (Vt.below HI0.out HY.out)
   have g0 : w.heap.size < y2.heap.size := by omega
   have e1 := Below.cellOf HY.out e1
   have f1 := Below.cellOf HY.out f1
   have HI1 := Lib.hid (Vt.below HI1.out HY.out)
   have g1 : w.heap.size + 1 < y2.heap.size := by omega
   have e2 := Below.cellOf HY.out e2
   have f2 := Below.cellOf HY.out f2
   have HI2 := Lib.hid (Vt.below HI2.out HY.out)
   have g2 : w.heap.size + 1 + 1 < y2.heap.size := by omega
   have e3 := Below.cellOf HY.out e3
   have f3 := Below.cellOf HY.out f3
   have HI3 := Lib.hid (Vt.below HI3.out HY.out)
   have g3 : x3.heap.size < y2.heap.size := by omega
   have e4 := Below.cellOf HY.out e4
   have f4 := Below.cellOf HY.out f4
   have HI4 := Lib.hid (Vt.below HI4.out HY.out)
   have g4 : x4.heap.size < y2.heap.size := by omega
   have e5 := Below.cellOf HY.out e5
   have f5 := Below.cellOf HY.out f5
   have HI5 := Lib.hid (Vt.below HI5.out HY.out)
   have g5 : x5.heap.size < y2.heap.size := by omega
   have e6 := Below.cellOf HY.out e6
   have f6 := Below.cellOf HY.out f6
   have HI6 := Lib.hid (Vt.below HI6.out HY.out)
   have g6 : x6.heap.size < y2.heap.size := by omega
   have HBw := Lib.hid (HBw.out.trans (HY.out.mono (by omega : w.heap.size ≤ y1.heap.size)))
   clear HY
   dsimp only
   go_wp2_with fail
   refine (same_at s3.out HI6.out HI0.out).mono ?_
   rintro e y3 ⟨rfl,HY⟩
   have hz := HY.out.size
   have e0 := Below.cellOf HY.out e0
   have f0 := Below.cellOf HY.out f0
   have HI0 := Lib.hid (Vt.below HI0.out HY.out)
   have g0 : w.heap.size < y3.heap.size := by omega
   have e1 := Below.cellOf HY.out e1
   have f1 := Below.cellOf HY.out f1
   have HI1 := Lib.hid (Vt.below HI1.out HY.out)
   have g1 : w.heap.size + 1 < y3.heap.size := by omega
   have e2 := Below.cellOf HY.out e2
   have f2 := Below.cellOf HY.out f2
   have HI2 := Lib.hid (Vt.below HI2.out HY.out)
   have g2 : w.heap.size + 1 + 1 < y3.heap.size := by omega
   have e3 := Below.cellOf HY.out e3
   have f3 := Below.cellOf HY.out f3
   have HI3 := Lib.hid (Vt.below HI3.out HY.out)
   have g3 : x3.heap.size < y3.heap.size := by omega
   have e4 := Below.cellOf HY.out e4
   have f4 := Below.cellOf HY.out f4
   have HI4 := Lib.hid (Vt.below HI4.out HY.out)
   have g4 : x4.heap.size < y3.heap.size := by omega
   have e5 := Below.cellOf HY.out e5
   have f5 := Below.cellOf HY.out f5
   have HI5 := Lib.hid (Vt.below HI5.out HY.out)
   have g5 : x5.heap.size < y3.heap.size := by omega
   have e6 := Below.cellOf HY.out e6
   have f6 := Below.cellOf HY.out f6
   have HI6 := Lib.hid (Vt.below HI6.out HY.out)
   have g6 : x6.heap.size < y3.heap.size := by omega
   have HBw := Lib.hid (HBw.out.trans (HY.out.mono (by omega : w.heap.size ≤ y2.heap.size)))
   clear HY
   dsimp only
   go_wp2_with fail
   refine (fits_at (fits_self _ _) HI0.out HI0.out).mono ?_
   rintro e y4 ⟨rfl,HY⟩
   have hz := HY.out.size
   have e0 := Below.cellOf HY.out e0
   have f0 := Below.cellOf HY.out f0
   have HI0 := Lib.hid (Vt.below HI0.out HY.out)
   have g0 : w.heap.size < y4.heap.size := by omega
   have e1 := Below.cellOf HY.out e1
   have f1 := Below.cellOf HY.out f1
   have HI1 := Lib.hid (Vt.below HI1.out HY.out)
   have g1 : w.heap.size + 1 < y4.heap.size := by omega
   have e2 := Below.cellOf HY.out e2
   have f2 := Below.cellOf HY.out f2
   have HI2 := Lib.hid (Vt.below HI2.out HY.out)
   have g2 : w.heap.size + 1 + 1 < y4.heap.size := by omega
   have e3 := Below.cellOf HY.out e3
   have f3 := Below.cellOf HY.out f3
   have HI3 := Lib.hid (Vt.below HI3.out HY.out)
   have g3 : x3.heap.size < y4.heap.size := by omega
   have e4 := Below.cellOf HY.out e4
   have f4 := Below.cellOf HY.out f4
   have HI4 := Lib.hid (Vt.below HI4.out HY.out)
   have g4 : x4.heap.size < y4.heap.size := by omega
   have e5 := Below.cellOf HY.out e5
   have f5 := Below.cellOf HY.out f5
   have HI5 := Lib.hid (Vt.below HI5.out HY.out)
   have g5 : x5.heap.size < y4.heap.size := by omega
   have e6 := Below.cellOf HY.out e6
   have f6 := Below.cellOf HY.out f6
   have HI6 := Lib.hid (Vt.below HI6.out HY.out)
   have g6 : x6.heap.size < y4.heap.size := by omega
   have HBw := Lib.hid (HBw.out.trans (HY.out.mono (by omega : w.heap.size ≤ y3.heap.size)))
   clear HY
   dsimp only
   go_upto_region 17 with fail
   have HEA := HEA
   cases B3
   ·have HQ := Lib.hid (unjoined HDB3.out.symm)
    go_wp2_with fail
    refine (fits_at HQ.out.1 HI0.out HI1.out).mono ?_
    rintro e y5 ⟨rfl,HY⟩
    have hz := HY.out.size
    have e0 := Below.cellOf HY.out e0
    have f0 := Below.cellOf HY.out f0
    have HI0 := Lib.hid (Vt.below HI0.out HY.out)
    have g0 : w.heap.size < y5.heap.size := by omega
    have e1 := Below.cellOf HY.out e1
    have f1 := Below.cellOf HY.out f1
    have HI1 := Lib.hid (Vt.below HI1.out HY.out)
    have g1 : w.heap.size + 1 < y5.heap.size := by omega
    have e2 := Below.cellOf HY.out e2
    have f2 := Below.cellOf HY.out f2
    have HI2 := Lib.hid (Vt.below HI2.out HY.out)
    have g2 : w.heap.size + 1 + 1 < y5.heap.size := by omega
    have e3 := Below.cellOf HY.out e3
    have f3 := Below.cellOf HY.out f3
    have HI3 := Lib.hid (Vt.below HI3.out HY.out)
    have g3 : x3.heap.size < y5.heap.size := by omega
    have e4 := Below.cellOf HY.out e4
    have f4 := Below.cellOf HY.out f4
    have HI4 := Lib.hid (Vt.below HI4.out HY.out)
    have g4 : x4.heap.size < y5.heap.size := by omega
    have e5 := Below.cellOf HY.out e5
    have f5 := Below.cellOf HY.out f5
    have HI5 := Lib.hid (Vt.below HI5.out HY.out)
    have g5 : x5.heap.size < y5.heap.size := by omega
    have e6 := Below.cellOf HY.out e6
    have f6 := Below.cellOf HY.out f6
    have HI6 := Lib.hid (Vt.below HI6.out HY.out)
    have g6 : x6.heap.size < y5.heap.size := by omega
    have HBw := Lib.hid (HBw.out.trans (HY.out.mono (by omega : w.heap.size ≤ y4.heap.size)))
    clear HY
    dsimp only
    go_wp2_with fail
    refine (fits_at HQ.out.2 HI1.out HI0.out).mono ?_
    rintro e y6 ⟨rfl,HY⟩
    have hz := HY.out.size
    have e0 := Below.cellOf HY.out e0
    have f0 := Below.cellOf HY.out f0
    have HI0 := Lib.hid (Vt.below HI0.out HY.out)
    have g0 : w.heap.size < y6.heap.size := by omega
    have e1 := Below.cellOf HY.out e1
    have f1 := Below.cellOf HY.out f1
    have HI1 := Lib.hid (Vt.below HI1.out HY.out)
    have g1 : w.heap.size + 1 < y6.heap.size := by omega
    have e2 := Below.cellOf HY.out e2
    have f2 := Below.cellOf HY.out f2
    have HI2 := Lib.hid (Vt.below HI2.out HY.out)
    have g2 : w.heap.size + 1 + 1 < y6.heap.size := by omega
    have e3 := Below.cellOf HY.out e3
    have f3 := Below.cellOf HY.out f3
    have HI3 := Lib.hid (Vt.below HI3.out HY.out)
    have g3 : x3.heap.size < y6.heap.size := by omega
    have e4 := Below.cellOf HY.out e4
    have f4 := Below.cellOf HY.out f4
    have HI4 := Lib.hid (Vt.below HI4.out HY.out)
    have g4 : x4.heap.size < y6.heap.size := by omega
    have e5 := Below.cellOf HY.out e5
    have f5 := Below.cellOf HY.out f5
    have HI5 := Lib.hid (Vt.below HI5.out HY.out)
    have g5 : x5.heap.size < y6.heap.size := by omega
    have e6 := Below.cellOf HY.out e6
    have f6 := Below.cellOf HY.out f6
    have HI6 := Lib.hid (Vt.below HI6.out HY.out)
    have g6 : x6.heap.size < y6.heap.size := by omega
    have HBw := Lib.hid (HBw.out.trans (HY.out.mono (by omega : w.heap.size ≤ y5.heap.size)))
    clear HY
    dsimp only
    go_wp2_with fail
    go_ret
    exact ⟨rfl,HBw.out⟩
   ·have hf := fits_joined (ce := ce) (cl := cl) HDB3.out.symm
    rw [← HD3.out] at hf
    have HF := Lib.hid hf
    clear hf
    obtain ⟨r,hr⟩ : ∃ z,z = fitsB ⟨ce,cl⟩ ⟨ae,al⟩ := ⟨_,rfl⟩
    have HR := Lib.hid hr
    clear hr
    cases r
    ·go_wp2_with fail
     refine (fits_at HR.out.symm HI2.out HI0.out).mono ?_
     rintro e y5 ⟨rfl,HY⟩
     have hz := HY.out.size
     have e0 := Below.cellOf HY.out e0
     have f0 := Below.cellOf HY.out f0
     have HI0 := Lib.hid (Vt.below HI0.out HY.out)
     have g0 : w.heap.size < y5.heap.size := by omega
     have e1 := Below.cellOf HY.out e1
     have f1 := Below.cellOf HY.out f1
     have HI1 := Lib.hid (Vt.below HI1.out HY.out)
     have g1 : w.heap.size + 1 < y5.heap.size := by omega
     have e2 := Below.cellOf HY.out e2
     have f2 := Below.cellOf HY.out f2
     have HI2 := Lib.hid (Vt.below HI2.out HY.out)
     have g2 : w.heap.size + 1 + 1 < y5.heap.size := by omega
     have e3 := Below.cellOf HY.out e3
     have f3 := Below.cellOf HY.out f3
     have HI3 := Lib.hid (Vt.below HI3.out HY.out)
     have g3 : x3.heap.size < y5.heap.size := by omega
     have e4 := Below.cellOf HY.out e4
     have f4 := Below.cellOf HY.out f4
     have HI4 := Lib.hid (Vt.below HI4.out HY.out)
     have g4 : x4.heap.size < y5.heap.size := by omega
     have e5 := Below.cellOf HY.out e5
     have f5 := Below.cellOf HY.out f5
     have HI5 := Lib.hid (Vt.below HI5.out HY.out)
     have g5 : x5.heap.size < y5.heap.size := by omega
     have e6 := Below.cellOf HY.out e6
     have f6 := Below.cellOf HY.out f6
     have HI6 := Lib.hid (Vt.below HI6.out HY.out)
     have g6 : x6.heap.size < y5.heap.size := by omega
     have HBw := Lib.hid (HBw.out.trans (HY.out.mono (by omega : w.heap.size ≤ y4.heap.size)))
     clear HY
     dsimp only
     go_wp2_with fail
     refine (fits_at HF.out.1 HI0.out HI3.out).mono ?_
     rintro e y7 ⟨rfl,HY⟩
     have hz := HY.out.size
     have e0 := Below.cellOf HY.out e0
     have f0 := Below.cellOf HY.out f0
     have HI0 := Lib.hid (Vt.below HI0.out HY.out)
     have g0 : w.heap.size < y7.heap.size := by omega
     have e1 := Below.cellOf HY.out e1
     have f1 := Below.cellOf HY.out f1
     have HI1 := Lib.hid (Vt.below HI1.out HY.out)
     have g1 : w.heap.size + 1 < y7.heap.size := by omega
     have e2 := Below.cellOf HY.out e2
     have f2 := Below.cellOf HY.out f2
     have HI2 := Lib.hid (Vt.below HI2.out HY.out)
     have g2 : w.heap.size + 1 + 1 < y7.heap.size := by omega
     have e3 := Below.cellOf HY.out e3
     have f3 := Below.cellOf HY.out f3
     have HI3 := Lib.hid (Vt.below HI3.out HY.out)
     have g3 : x3.heap.size < y7.heap.size := by omega
     have e4 := Below.cellOf HY.out e4
     have f4 := Below.cellOf HY.out f4
     have HI4 := Lib.hid (Vt.below HI4.out HY.out)
     have g4 : x4.heap.size < y7.heap.size := by omega
     have e5 := Below.cellOf HY.out e5
     have f5 := Below.cellOf HY.out f5
     have HI5 := Lib.hid (Vt.below HI5.out HY.out)
     have g5 : x5.heap.size < y7.heap.size := by omega
     have e6 := Below.cellOf HY.out e6
     have f6 := Below.cellOf HY.out f6
     have HI6 := Lib.hid (Vt.below HI6.out HY.out)
     have g6 : x6.heap.size < y7.heap.size := by omega
     have HBw := Lib.hid (HBw.out.trans (HY.out.mono (by omega : w.heap.size ≤ y5.heap.size)))
     clear HY
     dsimp only
     go_wp2_with fail
     refine (fits_at HF.out.2.1 HI1.out HI3.out).mono ?_
     rintro e y8 ⟨rfl,HY⟩
     have hz := HY.out.size
     have e0 := Below.cellOf HY.out e0
     have f0 := Below.cellOf HY.out f0
     have HI0 := Lib.hid (Vt.below HI0.out HY.out)
     have g0 : w.heap.size < y8.heap.size := by omega
     have e1 := Below.cellOf HY.out e1
     have f1 := Below.cellOf HY.out f1
     have HI1 := Lib.hid (Vt.below HI1.out HY.out)
     have g1 : w.heap.size + 1 < y8.heap.size := by omega
     have e2 := Below.cellOf HY.out e2
     have f2 := Below.cellOf HY.out f2
     have HI2 := Lib.hid (Vt.below HI2.out HY.out)
     have g2 : w.heap.size + 1 + 1 < y8.heap.size := by omega
     have e3 := Below.cellOf HY.out e3
     have f3 := Below.cellOf HY.out f3
     have HI3 := Lib.hid (Vt.below HI3.out HY.out)
     have g3 : x3.heap.size < y8.heap.size := by omega
     have e4 := Below.cellOf HY.out e4
     have f4 := Below.cellOf HY.out f4
     have HI4 := Lib.hid (Vt.below HI4.out HY.out)
     have g4 : x4.heap.size < y8.heap.size := by omega
     have e5 := Below.cellOf HY.out e5
     have f5 := Below.cellOf HY.out f5
     have HI5 := Lib.hid (Vt.below HI5.out HY.out)
     have g5 : x5.heap.size < y8.heap.size := by omega
     have e6 := Below.cellOf HY.out e6
     have f6 := Below.cellOf HY.out f6
     have HI6 := Lib.hid (Vt.below HI6.out HY.out)
     have g6 : x6.heap.size < y8.heap.size := by omega
     have HBw := Lib.hid (HBw.out.trans (HY.out.mono (by omega : w.heap.size ≤ y7.heap.size)))
     clear HY
     dsimp only
     go_upto_region 21 with fail
     obtain ⟨⟨d7,l7⟩,hd⟩ : ∃ z,z = joinE ⟨d3,l3⟩ ⟨ce,cl⟩ := ⟨_,rfl⟩
     obtain ⟨B7,hB⟩ : ∃ z,z = joinB ⟨d3,l3⟩ ⟨ce,cl⟩ := ⟨_,rfl⟩
     have hl7 := join_len hd hl3 hl2
     have HD7 := Lib.hid hd
     have HDB7 := Lib.hid hB
     clear hd hB
     go_wp2_with fail
     refine (join_at HD7.out HDB7.out HI3.out HI2.out (by first | omega | simp) (by first | omega | simp)).mono ?_
     rintro e x7 ⟨U7,c7,rfl,HI7,hU,hU',HX7⟩
     have hz7 := HX7.out.size
     have e0 := Below.cellOf HX7.out e0
     have f0 := Below.cellOf HX7.out f0
     have HI0 := Lib.hid (Vt.below HI0.out HX7.out)
     have g0 : w.heap.size < x7.heap.size := by omega
     have e1 := Below.cellOf HX7.out e1
     have f1 := Below.cellOf HX7.out f1
     have HI1 := Lib.hid (Vt.below HI1.out HX7.out)
     have g1 : w.heap.size + 1 < x7.heap.size := by omega
     have e2 := Below.cellOf HX7.out e2
     have f2 := Below.cellOf HX7.out f2
     have HI2 := Lib.hid (Vt.below HI2.out HX7.out)
     have g2 : w.heap.size + 1 + 1 < x7.heap.size := by omega
     have e3 := Below.cellOf HX7.out e3
     have f3 := Below.cellOf HX7.out f3
     have HI3 := Lib.hid (Vt.below HI3.out HX7.out)
     have g3 : x3.heap.size < x7.heap.size := by omega
     have e4 := Below.cellOf HX7.out e4
     have f4 := Below.cellOf HX7.out f4
     have HI4 := Lib.hid (Vt.below HI4.out HX7.out)
     have g4 : x4.heap.size < x7.heap.size := by omega
     have e5 := Below.cellOf HX7.out e5
     have f5 := Below.cellOf HX7.out f5
     have HI5 := Lib.hid (Vt.below HI5.out HX7.out)
     have g5 : x5.heap.size < x7.heap.size := by omega
     have e6 := Below.cellOf HX7.out e6
     have f6 := Below.cellOf HX7.out f6
     have HI6 := Lib.hid (Vt.below HI6.out HX7.out)
     have g6 : x6.heap.size < x7.heap.size := by omega
     dsimp only
     go_upto_region 22 with fail
     obtain ⟨X7,hX⟩ : ∃ y,y = x7.alloc (.cells #[.bool d7,.slice U7 l7.length c7] 46) := ⟨_,rfl⟩
     rw [← hX]
     have hy7 : X7.heap.size = x7.heap.size + 1 := by rw [hX]; simp
     have e7 : X7.cell? ⟨x7.heap.size,1,none⟩ = some (.slice U7 l7.length c7) := by rw [hX]; go_simp
     have f7 : X7.cell? ⟨x7.heap.size,0,none⟩ = some (.bool d7) := by rw [hX]; go_simp
     have hbx : Below x7.heap.size x7 X7 := by rw [hX]; exact (Below.refl _ _).alloc (Nat.le_refl _) _
     have e0 := Below.cellOf hbx e0
     have f0 := Below.cellOf hbx f0
     have HI0 := Lib.hid (Vt.below HI0.out hbx)
     have e1 := Below.cellOf hbx e1
     have f1 := Below.cellOf hbx f1
     have HI1 := Lib.hid (Vt.below HI1.out hbx)
     have e2 := Below.cellOf hbx e2
     have f2 := Below.cellOf hbx f2
     have HI2 := Lib.hid (Vt.below HI2.out hbx)
     have e3 := Below.cellOf hbx e3
     have f3 := Below.cellOf hbx f3
     have HI3 := Lib.hid (Vt.below HI3.out hbx)
     have e4 := Below.cellOf hbx e4
     have f4 := Below.cellOf hbx f4
     have HI4 := Lib.hid (Vt.below HI4.out hbx)
     have e5 := Below.cellOf hbx e5
     have f5 := Below.cellOf hbx f5
     have HI5 := Lib.hid (Vt.below HI5.out hbx)
     have e6 := Below.cellOf hbx e6
     have f6 := Below.cellOf hbx f6
     have HI6 := Lib.hid (Vt.below HI6.out hbx)
     have HI7 := Lib.hid (Vt.below HI7.out hbx)
     have HBw := Lib.hid (HBw.out.trans ((HX7.out.trans (hbx.mono hz7)).mono (by omega : w.heap.size ≤ y8.heap.size)))
     clear hbx hX
     obtain ⟨⟨d8,l8⟩,hd⟩ : ∃ z,z = joinE ⟨be,bl⟩ ⟨ce,cl⟩ := ⟨_,rfl⟩
     obtain ⟨B8,hB⟩ : ∃ z,z = joinB ⟨be,bl⟩ ⟨ce,cl⟩ := ⟨_,rfl⟩
     have hl8 := join_len hd hl1 hl2
     have HD8 := Lib.hid hd
     have HDB8 := Lib.hid hB
     clear hd hB
     go_wp2_with fail
     refine (join_at HD8.out HDB8.out HI1.out HI2.out (by first | omega | simp) (by first | omega | simp)).mono ?_
     rintro e x8 ⟨U8,c8,rfl,HI8,hU,hU',HX8⟩
     have hz8 := HX8.out.size
     have e0 := Below.cellOf HX8.out e0
     have f0 := Below.cellOf HX8.out f0
     have HI0 := Lib.hid (Vt.below HI0.out HX8.out)
     have g0 : w.heap.size < x8.heap.size := by omega
     have e1 := Below.cellOf HX8.out e1
     have f1 := Below.cellOf HX8.out f1
     have HI1 := Lib.hid (Vt.below HI1.out HX8.out)
     have g1 : w.heap.size + 1 < x8.heap.size := by omega
     have e2 := Below.cellOf HX8.out e2
     have f2 := Below.cellOf HX8.out f2
     have HI2 := Lib.hid (Vt.below HI2.out HX8.out)
     have g2 : w.heap.size + 1 + 1 < x8.heap.size := by omega
     have e3 := Below.cellOf HX8.out e3
     have f3 := Below.cellOf HX8.out f3
     have HI3 := Lib.hid (Vt.below HI3.out HX8.out)
     have g3 : x3.heap.size < x8.heap.size := by omega
     have e4 := Below.cellOf HX8.out e4
     have f4 := Below.cellOf HX8.out f4
     have HI4 := Lib.hid (Vt.below HI4.out HX8.out)
     have g4 : x4.heap.size < x8.heap.size := by omega
     have e5 := Below.cellOf HX8.out e5
     have f5 := Below.cellOf HX8.out f5
     have HI5 := Lib.hid (Vt.below HI5.out HX8.out)
     have g5 : x5.heap.size < x8.heap.size := by omega
     have e6 := Below.cellOf HX8.out e6
     have f6 := Below.cellOf HX8.out f6
     have HI6 := Lib.hid (Vt.below HI6.out HX8.out)
     have g6 : x6.heap.size < x8.heap.size := by omega
     have e7 := Below.cellOf HX8.out e7
     have f7 := Below.cellOf HX8.out f7
     have HI7 := Lib.hid (Vt.below HI7.out HX8.out)
     have g7 : x7.heap.size < x8.heap.size := by omega
     dsimp only
     go_upto_region 23 with fail
     obtain ⟨X8,hX⟩ : ∃ y,y = x8.alloc (.cells #[.bool d8,.slice U8 l8.length c8] 46) := ⟨_,rfl⟩
     rw [← hX]
     have hy8 : X8.heap.size = x8.heap.size + 1 := by rw [hX]; simp
     have e8 : X8.cell? ⟨x8.heap.size,1,none⟩ = some (.slice U8 l8.length c8) := by rw [hX]; go_simp
     have f8 : X8.cell? ⟨x8.heap.size,0,none⟩ = some (.bool d8) := by rw [hX]; go_simp
     have hbx : Below x8.heap.size x8 X8 := by rw [hX]; exact (Below.refl _ _).alloc (Nat.le_refl _) _
     have e0 := Below.cellOf hbx e0
     have f0 := Below.cellOf hbx f0
     have HI0 := Lib.hid (Vt.below HI0.out hbx)
     have e1 := Below.cellOf hbx e1
     have f1 := Below.cellOf hbx f1
     have HI1 := Lib.hid (Vt.below HI1.out hbx)
     have e2 := Below.cellOf hbx e2
     have f2 := Below.cellOf hbx f2
     have HI2 := Lib.hid (Vt.below HI2.out hbx)
     have e3 := Below.cellOf hbx e3
     have f3 := Below.cellOf hbx f3
     have HI3 := Lib.hid (Vt.below HI3.out hbx)
     have e4 := Below.cellOf hbx e4
     have f4 := Below.cellOf hbx f4
     have HI4 := Lib.hid (Vt.below HI4.out hbx)
     have e5 := Below.cellOf hbx e5
     have f5 := Below.cellOf hbx f5
     have HI5 := Lib.hid (Vt.below HI5.out hbx)
     have e6 := Below.cellOf hbx e6
     have f6 := Below.cellOf hbx f6
     have HI6 := Lib.hid (Vt.below HI6.out hbx)
     have e7 := Below.cellOf hbx e7
     have f7 := Below.cellOf hbx f7
     have HI7 := Lib.hid (Vt.below HI7.out hbx)
     have HI8 := Lib.hid (Vt.below HI8.out hbx)
     have HBw := Lib.hid (HBw.out.trans ((HX8.out.trans (hbx.mono hz8)).mono (by omega : w.heap.size ≤ X7.heap.size)))
     clear hbx hX
     cases B8
     ·have q : false = B7 := by rw [HDB7.out,HD3.out]; exact (unfine HDB3.out.symm HDB8.out.symm).symm
      subst q
      go_wp2_with fail
      go_ret
      exact ⟨rfl,HBw.out⟩
     ·go_upto_region 25 with fail
      obtain ⟨⟨d9,l9⟩,hd⟩ : ∃ z,z = joinE ⟨ae,al⟩ ⟨d8,l8⟩ := ⟨_,rfl⟩
      obtain ⟨B9,hB⟩ : ∃ z,z = joinB ⟨ae,al⟩ ⟨d8,l8⟩ := ⟨_,rfl⟩
      have hl9 := join_len hd hl0 hl8
      have HD9 := Lib.hid hd
      have HDB9 := Lib.hid hB
      clear hd hB
      go_wp2_with fail
      refine (join_at HD9.out HDB9.out HI0.out HI8.out (by first | omega | simp) (by first | omega | simp)).mono ?_
      rintro e x9 ⟨U9,c9,rfl,HI9,hU,hU',HX9⟩
      have hz9 := HX9.out.size
      have e0 := Below.cellOf HX9.out e0
      have f0 := Below.cellOf HX9.out f0
      have HI0 := Lib.hid (Vt.below HI0.out HX9.out)
      have g0 : w.heap.size < x9.heap.size := by omega
      have e1 := Below.cellOf HX9.out e1
      have f1 := Below.cellOf HX9.out f1
      have HI1 := Lib.hid (Vt.below HI1.out HX9.out)
      have g1 : w.heap.size + 1 < x9.heap.size := by omega
      have e2 := Below.cellOf HX9.out e2
      have f2 := Below.cellOf HX9.out f2
      have HI2 := Lib.hid (Vt.below HI2.out HX9.out)
      have g2 : w.heap.size + 1 + 1 < x9.heap.size := by omega
      have e3 := Below.cellOf HX9.out e3
      have f3 := Below.cellOf HX9.out f3
      have HI3 := Lib.hid (Vt.below HI3.out HX9.out)
      have g3 : x3.heap.size < x9.heap.size := by omega
      have e4 := Below.cellOf HX9.out e4
      have f4 := Below.cellOf HX9.out f4
      have HI4 := Lib.hid (Vt.below HI4.out HX9.out)
      have g4 : x4.heap.size < x9.heap.size := by omega
      have e5 := Below.cellOf HX9.out e5
      have f5 := Below.cellOf HX9.out f5
      have HI5 := Lib.hid (Vt.below HI5.out HX9.out)
      have g5 : x5.heap.size < x9.heap.size := by omega
      have e6 := Below.cellOf HX9.out e6
      have f6 := Below.cellOf HX9.out f6
      have HI6 := Lib.hid (Vt.below HI6.out HX9.out)
      have g6 : x6.heap.size < x9.heap.size := by omega
      have e7 := Below.cellOf HX9.out e7
      have f7 := Below.cellOf HX9.out f7
      have HI7 := Lib.hid (Vt.below HI7.out HX9.out)
      have g7 : x7.heap.size < x9.heap.size := by omega
      have e8 := Below.cellOf HX9.out e8
      have f8 := Below.cellOf HX9.out f8
      have HI8 := Lib.hid (Vt.below HI8.out HX9.out)
      have g8 : x8.heap.size < x9.heap.size := by omega
      dsimp only
      go_upto_region 26 with fail
      obtain ⟨X9,hX⟩ : ∃ y,y = x9.alloc (.cells #[.bool d9,.slice U9 l9.length c9] 46) := ⟨_,rfl⟩
      rw [← hX]
      have hy9 : X9.heap.size = x9.heap.size + 1 := by rw [hX]; simp
      have e9 : X9.cell? ⟨x9.heap.size,1,none⟩ = some (.slice U9 l9.length c9) := by rw [hX]; go_simp
      have f9 : X9.cell? ⟨x9.heap.size,0,none⟩ = some (.bool d9) := by rw [hX]; go_simp
      have hbx : Below x9.heap.size x9 X9 := by rw [hX]; exact (Below.refl _ _).alloc (Nat.le_refl _) _
      have e0 := Below.cellOf hbx e0
      have f0 := Below.cellOf hbx f0
      have HI0 := Lib.hid (Vt.below HI0.out hbx)
      have e1 := Below.cellOf hbx e1
      have f1 := Below.cellOf hbx f1
      have HI1 := Lib.hid (Vt.below HI1.out hbx)
      have e2 := Below.cellOf hbx e2
      have f2 := Below.cellOf hbx f2
      have HI2 := Lib.hid (Vt.below HI2.out hbx)
      have e3 := Below.cellOf hbx e3
      have f3 := Below.cellOf hbx f3
      have HI3 := Lib.hid (Vt.below HI3.out hbx)
      have e4 := Below.cellOf hbx e4
      have f4 := Below.cellOf hbx f4
      have HI4 := Lib.hid (Vt.below HI4.out hbx)
      have e5 := Below.cellOf hbx e5
      have f5 := Below.cellOf hbx f5
      have HI5 := Lib.hid (Vt.below HI5.out hbx)
      have e6 := Below.cellOf hbx e6
      have f6 := Below.cellOf hbx f6
      have HI6 := Lib.hid (Vt.below HI6.out hbx)
      have e7 := Below.cellOf hbx e7
      have f7 := Below.cellOf hbx f7
      have HI7 := Lib.hid (Vt.below HI7.out hbx)
      have e8 := Below.cellOf hbx e8
      have f8 := Below.cellOf hbx f8
      have HI8 := Lib.hid (Vt.below HI8.out hbx)
      have HI9 := Lib.hid (Vt.below HI9.out hbx)
      have HBw := Lib.hid (HBw.out.trans ((HX9.out.trans (hbx.mono hz9)).mono (by omega : w.heap.size ≤ X8.heap.size)))
      clear hbx hX
      have q : B7 = B9 := by rw [HDB7.out,HD3.out,HDB9.out,HD8.out]; exact (join_assoc HEA.out HEB.out HEC.out HDB3.out.symm HDB8.out.symm).1
      subst q
      have s4 := Lib.hid (show sameE ⟨d7,l7⟩ ⟨d9,l9⟩ = true by rw [HD7.out,HD3.out,HD9.out,HD8.out]; exact (join_assoc HEA.out HEB.out HEC.out HDB3.out.symm HDB8.out.symm).2)
      go_wp2_with fail
      refine (same_at s4.out HI7.out HI9.out).mono ?_
      rintro e y9 ⟨rfl,HY⟩
      have hz := HY.out.size
      have e0 := Below.cellOf HY.out e0
      have f0 := Below.cellOf HY.out f0
      have HI0 := Lib.hid (Vt.below HI0.out HY.out)
      have g0 : w.heap.size < y9.heap.size := by omega
      have e1 := Below.cellOf HY.out e1
      have f1 := Below.cellOf HY.out f1
      have HI1 := Lib.hid (Vt.below HI1.out HY.out)
      have g1 : w.heap.size + 1 < y9.heap.size := by omega
      have e2 := Below.cellOf HY.out e2
      have f2 := Below.cellOf HY.out f2
      have HI2 := Lib.hid (Vt.below HI2.out HY.out)
      have g2 : w.heap.size + 1 + 1 < y9.heap.size := by omega
      have e3 := Below.cellOf HY.out e3
      have f3 := Below.cellOf HY.out f3
      have HI3 := Lib.hid (Vt.below HI3.out HY.out)
      have g3 : x3.heap.size < y9.heap.size := by omega
      have e4 := Below.cellOf HY.out e4
      have f4 := Below.cellOf HY.out f4
      have HI4 := Lib.hid (Vt.below HI4.out HY.out)
      have g4 : x4.heap.size < y9.heap.size := by omega
      have e5 := Below.cellOf HY.out e5
      have f5 := Below.cellOf HY.out f5
      have HI5 := Lib.hid (Vt.below HI5.out HY.out)
      have g5 : x5.heap.size < y9.heap.size := by omega
      have e6 := Below.cellOf HY.out e6
      have f6 := Below.cellOf HY.out f6
      have HI6 := Lib.hid (Vt.below HI6.out HY.out)
      have g6 : x6.heap.size < y9.heap.size := by omega
      have e7 := Below.cellOf HY.out e7
      have f7 := Below.cellOf HY.out f7
      have HI7 := Lib.hid (Vt.below HI7.out HY.out)
      have g7 : x7.heap.size < y9.heap.size := by omega
      have e8 := Below.cellOf HY.out e8
      have f8 := Below.cellOf HY.out f8
      have HI8 := Lib.hid (Vt.below HI8.out HY.out)
      have g8 : x8.heap.size < y9.heap.size := by omega
      have e9 := Below.cellOf HY.out e9
      have f9 := Below.cellOf HY.out f9
      have HI9 := Lib.hid (Vt.below HI9.out HY.out)
      have g9 : x9.heap.size < y9.heap.size := by omega
      have HBw := Lib.hid (HBw.out.trans (HY.out.mono (by omega : w.heap.size ≤ X9.heap.size)))
      clear HY
      dsimp only
      go_wp2_with fail
      go_ret
      exact ⟨rfl,HBw.out⟩
    ·go_wp2_with fail
     refine (fits_at HR.out.symm HI2.out HI0.out).mono ?_
     rintro e y5 ⟨rfl,HY⟩
     have hz := HY.out.size
     have e0 := Below.cellOf HY.out e0
     have f0 := Below.cellOf HY.out f0
     have HI0 := Lib.hid (Vt.below HI0.out HY.out)
     have g0 : w.heap.size < y5.heap.size := by omega
     have e1 := Below.cellOf HY.out e1
     have f1 := Below.cellOf HY.out f1
     have HI1 := Lib.hid (Vt.below HI1.out HY.out)
     have g1 : w.heap.size + 1 < y5.heap.size := by omega
     have e2 := Below.cellOf HY.out e2
     have f2 := Below.cellOf HY.out f2
     have HI2 := Lib.hid (Vt.below HI2.out HY.out)
     have g2 : w.heap.size + 1 + 1 < y5.heap.size := by omega
     have e3 := Below.cellOf HY.out e3
     have f3 := Below.cellOf HY.out f3
     have HI3 := Lib.hid (Vt.below HI3.out HY.out)
     have g3 : x3.heap.size < y5.heap.size := by omega
     have e4 := Below.cellOf HY.out e4
     have f4 := Below.cellOf HY.out f4
     have HI4 := Lib.hid (Vt.below HI4.out HY.out)
     have g4 : x4.heap.size < y5.heap.size := by omega
     have e5 := Below.cellOf HY.out e5
     have f5 := Below.cellOf HY.out f5
     have HI5 := Lib.hid (Vt.below HI5.out HY.out)
     have g5 : x5.heap.size < y5.heap.size := by omega
     have e6 := Below.cellOf HY.out e6
     have f6 := Below.cellOf HY.out f6
     have HI6 := Lib.hid (Vt.below HI6.out HY.out)
     have g6 : x6.heap.size < y5.heap.size := by omega
     have HBw := Lib.hid (HBw.out.trans (HY.out.mono (by omega : w.heap.size ≤ y4.heap.size)))
     clear HY
     dsimp only
     go_wp2_with fail
     refine (fits_at (HF.out.2.2 HR.out.symm) HI2.out HI3.out).mono ?_
     rintro e y6 ⟨rfl,HY⟩
     have hz := HY.out.size
     have e0 := Below.cellOf HY.out e0
     have f0 := Below.cellOf HY.out f0
     have HI0 := Lib.hid (Vt.below HI0.out HY.out)
     have g0 : w.heap.size < y6.heap.size := by omega
     have e1 := Below.cellOf HY.out e1
     have f1 := Below.cellOf HY.out f1
     have HI1 := Lib.hid (Vt.below HI1.out HY.out)
     have g1 : w.heap.size + 1 < y6.heap.size := by omega
     have e2 := Below.cellOf HY.out e2
     have f2 := Below.cellOf HY.out f2
     have HI2 := Lib.hid (Vt.below HI2.out HY.out)
     have g2 : w.heap.size + 1 + 1 < y6.heap.size := by omega
     have e3 := Below.cellOf HY.out e3
     have f3 := Below.cellOf HY.out f3
     have HI3 := Lib.hid (Vt.below HI3.out HY.out)
     have g3 : x3.heap.size < y6.heap.size := by omega
     have e4 := Below.cellOf HY.out e4
     have f4 := Below.cellOf HY.out f4
     have HI4 := Lib.hid (Vt.below HI4.out HY.out)
     have g4 : x4.heap.size < y6.heap.size := by omega
     have e5 := Below.cellOf HY.out e5
     have f5 := Below.cellOf HY.out f5
     have HI5 := Lib.hid (Vt.below HI5.out HY.out)
     have g5 : x5.heap.size < y6.heap.size := by omega
     have e6 := Below.cellOf HY.out e6
     have f6 := Below.cellOf HY.out f6
     have HI6 := Lib.hid (Vt.below HI6.out HY.out)
     have g6 : x6.heap.size < y6.heap.size := by omega
     have HBw := Lib.hid (HBw.out.trans (HY.out.mono (by omega : w.heap.size ≤ y5.heap.size)))
     clear HY
     dsimp only
     go_wp2_with fail
     refine (fits_at HF.out.1 HI0.out HI3.out).mono ?_
     rintro e y7 ⟨rfl,HY⟩
     have hz := HY.out.size
     have e0 := Below.cellOf HY.out e0
     have f0 := Below.cellOf HY.out f0
     have HI0 := Lib.hid (Vt.below HI0.out HY.out)
     have g0 : w.heap.size < y7.heap.size := by omega
     have e1 := Below.cellOf HY.out e1
     have f1 := Below.cellOf HY.out f1
     have HI1 := Lib.hid (Vt.below HI1.out HY.out)
     have g1 : w.heap.size + 1 < y7.heap.size := by omega
     have e2 := Below.cellOf HY.out e2
     have f2 := Below.cellOf HY.out f2
     have HI2 := Lib.hid (Vt.below HI2.out HY.out)
     have g2 : w.heap.size + 1 + 1 < y7.heap.size := by omega
     have e3 := Below.cellOf HY.out e3
     have f3 := Below.cellOf HY.out f3
     have HI3 := Lib.hid (Vt.below HI3.out HY.out)
     have g3 : x3.heap.size < y7.heap.size := by omega
     have e4 := Below.cellOf HY.out e4
     have f4 := Below.cellOf HY.out f4
     have HI4 := Lib.hid (Vt.below HI4.out HY.out)
     have g4 : x4.heap.size < y7.heap.size := by omega
     have e5 := Below.cellOf HY.out e5
     have f5 := Below.cellOf HY.out f5
     have HI5 := Lib.hid (Vt.below HI5.out HY.out)
     have g5 : x5.heap.size < y7.heap.size := by omega
     have e6 := Below.cellOf HY.out e6
     have f6 := Below.cellOf HY.out f6
     have HI6 := Lib.hid (Vt.below HI6.out HY.out)
     have g6 : x6.heap.size < y7.heap.size := by omega
     have HBw := Lib.hid (HBw.out.trans (HY.out.mono (by omega : w.heap.size ≤ y6.heap.size)))
     clear HY
     dsimp only
     go_wp2_with fail
     refine (fits_at HF.out.2.1 HI1.out HI3.out).mono ?_
     rintro e y8 ⟨rfl,HY⟩
     have hz := HY.out.size
     have e0 := Below.cellOf HY.out e0
     have f0 := Below.cellOf HY.out f0
     have HI0 := Lib.hid (Vt.below HI0.out HY.out)
     have g0 : w.heap.size < y8.heap.size := by omega
     have e1 := Below.cellOf HY.out e1
     have f1 := Below.cellOf HY.out f1
     have HI1 := Lib.hid (Vt.below HI1.out HY.out)
     have g1 : w.heap.size + 1 < y8.heap.size := by omega
     have e2 := Below.cellOf HY.out e2
     have f2 := Below.cellOf HY.out f2
     have HI2 := Lib.hid (Vt.below HI2.out HY.out)
     have g2 : w.heap.size + 1 + 1 < y8.heap.size := by omega
     have e3 := Below.cellOf HY.out e3
     have f3 := Below.cellOf HY.out f3
     have HI3 := Lib.hid (Vt.below HI3.out HY.out)
     have g3 : x3.heap.size < y8.heap.size := by omega
     have e4 := Below.cellOf HY.out e4
     have f4 := Below.cellOf HY.out f4
     have HI4 := Lib.hid (Vt.below HI4.out HY.out)
     have g4 : x4.heap.size < y8.heap.size := by omega
     have e5 := Below.cellOf HY.out e5
     have f5 := Below.cellOf HY.out f5
     have HI5 := Lib.hid (Vt.below HI5.out HY.out)
     have g5 : x5.heap.size < y8.heap.size := by omega
     have e6 := Below.cellOf HY.out e6
     have f6 := Below.cellOf HY.out f6
     have HI6 := Lib.hid (Vt.below HI6.out HY.out)
     have g6 : x6.heap.size < y8.heap.size := by omega
     have HBw := Lib.hid (HBw.out.trans (HY.out.mono (by omega : w.heap.size ≤ y7.heap.size)))
     clear HY
     dsimp only
     go_upto_region 21 with fail
     obtain ⟨⟨d7,l7⟩,hd⟩ : ∃ z,z = joinE ⟨d3,l3⟩ ⟨ce,cl⟩ := ⟨_,rfl⟩
     obtain ⟨B7,hB⟩ : ∃ z,z = joinB ⟨d3,l3⟩ ⟨ce,cl⟩ := ⟨_,rfl⟩
     have hl7 := join_len hd hl3 hl2
     have HD7 := Lib.hid hd
     have HDB7 := Lib.hid hB
     clear hd hB
     go_wp2_with fail
     refine (join_at HD7.out HDB7.out HI3.out HI2.out (by first | omega | simp) (by first | omega | simp)).mono ?_
     rintro e x7 ⟨U7,c7,rfl,HI7,hU,hU',HX7⟩
     have hz7 := HX7.out.size
     have e0 := Below.cellOf HX7.out e0
     have f0 := Below.cellOf HX7.out f0
     have HI0 := Lib.hid (Vt.below HI0.out HX7.out)
     have g0 : w.heap.size < x7.heap.size := by omega
     have e1 := Below.cellOf HX7.out e1
     have f1 := Below.cellOf HX7.out f1
     have HI1 := Lib.hid (Vt.below HI1.out HX7.out)
     have g1 : w.heap.size + 1 < x7.heap.size := by omega
     have e2 := Below.cellOf HX7.out e2
     have f2 := Below.cellOf HX7.out f2
     have HI2 := Lib.hid (Vt.below HI2.out HX7.out)
     have g2 : w.heap.size + 1 + 1 < x7.heap.size := by omega
     have e3 := Below.cellOf HX7.out e3
     have f3 := Below.cellOf HX7.out f3
     have HI3 := Lib.hid (Vt.below HI3.out HX7.out)
     have g3 : x3.heap.size < x7.heap.size := by omega
     have e4 := Below.cellOf HX7.out e4
     have f4 := Below.cellOf HX7.out f4
     have HI4 := Lib.hid (Vt.below HI4.out HX7.out)
     have g4 : x4.heap.size < x7.heap.size := by omega
     have e5 := Below.cellOf HX7.out e5
     have f5 := Below.cellOf HX7.out f5
     have HI5 := Lib.hid (Vt.below HI5.out HX7.out)
     have g5 : x5.heap.size < x7.heap.size := by omega
     have e6 := Below.cellOf HX7.out e6
     have f6 := Below.cellOf HX7.out f6
     have HI6 := Lib.hid (Vt.below HI6.out HX7.out)
     have g6 : x6.heap.size < x7.heap.size := by omega
     dsimp only
     go_upto_region 22 with fail
     obtain ⟨X7,hX⟩ : ∃ y,y = x7.alloc (.cells #[.bool d7,.slice U7 l7.length c7] 46) := ⟨_,rfl⟩
     rw [← hX]
     have hy7 : X7.heap.size = x7.heap.size + 1 := by rw [hX]; simp
     have e7 : X7.cell? ⟨x7.heap.size,1,none⟩ = some (.slice U7 l7.length c7) := by rw [hX]; go_simp
     have f7 : X7.cell? ⟨x7.heap.size,0,none⟩ = some (.bool d7) := by rw [hX]; go_simp
     have hbx : Below x7.heap.size x7 X7 := by rw [hX]; exact (Below.refl _ _).alloc (Nat.le_refl _) _
     have e0 := Below.cellOf hbx e0
     have f0 := Below.cellOf hbx f0
     have HI0 := Lib.hid (Vt.below HI0.out hbx)
     have e1 := Below.cellOf hbx e1
     have f1 := Below.cellOf hbx f1
     have HI1 := Lib.hid (Vt.below HI1.out hbx)
     have e2 := Below.cellOf hbx e2
     have f2 := Below.cellOf hbx f2
     have HI2 := Lib.hid (Vt.below HI2.out hbx)
     have e3 := Below.cellOf hbx e3
     have f3 := Below.cellOf hbx f3
     have HI3 := Lib.hid (Vt.below HI3.out hbx)
     have e4 := Below.cellOf hbx e4
     have f4 := Below.cellOf hbx f4
     have HI4 := Lib.hid (Vt.below HI4.out hbx)
     have e5 := Below.cellOf hbx e5
     have f5 := Below.cellOf hbx f5
     have HI5 := Lib.hid (Vt.below HI5.out hbx)
     have e6 := Below.cellOf hbx e6
     have f6 := Below.cellOf hbx f6
     have HI6 := Lib.hid (Vt.below HI6.out hbx)
     have HI7 := Lib.hid (Vt.below HI7.out hbx)
     have HBw := Lib.hid (HBw.out.trans ((HX7.out.trans (hbx.mono hz7)).mono (by omega : w.heap.size ≤ y8.heap.size)))
     clear hbx hX
     obtain ⟨⟨d8,l8⟩,hd⟩ : ∃ z,z = joinE ⟨be,bl⟩ ⟨ce,cl⟩ := ⟨_,rfl⟩
     obtain ⟨B8,hB⟩ : ∃ z,z = joinB ⟨be,bl⟩ ⟨ce,cl⟩ := ⟨_,rfl⟩
     have hl8 := join_len hd hl1 hl2
     have HD8 := Lib.hid hd
     have HDB8 := Lib.hid hB
     clear hd hB
     go_wp2_with fail
     refine (join_at HD8.out HDB8.out HI1.out HI2.out (by first | omega | simp) (by first | omega | simp)).mono ?_
     rintro e x8 ⟨U8,c8,rfl,HI8,hU,hU',HX8⟩
     have hz8 := HX8.out.size
     have e0 := Below.cellOf HX8.out e0
     have f0 := Below.cellOf HX8.out f0
     have HI0 := Lib.hid (Vt.below HI0.out HX8.out)
     have g0 : w.heap.size < x8.heap.size := by omega
     have e1 := Below.cellOf HX8.out e1
     have f1 := Below.cellOf HX8.out f1
     have HI1 := Lib.hid (Vt.below HI1.out HX8.out)
     have g1 : w.heap.size + 1 < x8.heap.size := by omega
     have e2 := Below.cellOf HX8.out e2
     have f2 := Below.cellOf HX8.out f2
     have HI2 := Lib.hid (Vt.below HI2.out HX8.out)
     have g2 : w.heap.size + 1 + 1 < x8.heap.size := by omega
     have e3 := Below.cellOf HX8.out e3
     have f3 := Below.cellOf HX8.out f3
     have HI3 := Lib.hid (Vt.below HI3.out HX8.out)
     have g3 : x3.heap.size < x8.heap.size := by omega
     have e4 := Below.cellOf HX8.out e4
     have f4 := Below.cellOf HX8.out f4
     have HI4 := Lib.hid (Vt.below HI4.out HX8.out)
     have g4 : x4.heap.size < x8.heap.size := by omega
     have e5 := Below.cellOf HX8.out e5
     have f5 := Below.cellOf HX8.out f5
     have HI5 := Lib.hid (Vt.below HI5.out HX8.out)
     have g5 : x5.heap.size < x8.heap.size := by omega
     have e6 := Below.cellOf HX8.out e6
     have f6 := Below.cellOf HX8.out f6
     have HI6 := Lib.hid (Vt.below HI6.out HX8.out)
     have g6 : x6.heap.size < x8.heap.size := by omega
     have e7 := Below.cellOf HX8.out e7
     have f7 := Below.cellOf HX8.out f7
     have HI7 := Lib.hid (Vt.below HI7.out HX8.out)
     have g7 : x7.heap.size < x8.heap.size := by omega
     dsimp only
     go_upto_region 23 with fail
     obtain ⟨X8,hX⟩ : ∃ y,y = x8.alloc (.cells #[.bool d8,.slice U8 l8.length c8] 46) := ⟨_,rfl⟩
     rw [← hX]
     have hy8 : X8.heap.size = x8.heap.size + 1 := by rw [hX]; simp
     have e8 : X8.cell? ⟨x8.heap.size,1,none⟩ = some (.slice U8 l8.length c8) := by rw [hX]; go_simp
     have f8 : X8.cell? ⟨x8.heap.size,0,none⟩ = some (.bool d8) := by rw [hX]; go_simp
     have hbx : Below x8.heap.size x8 X8 := by rw [hX]; exact (Below.refl _ _).alloc (Nat.le_refl _) _
     have e0 := Below.cellOf hbx e0
     have f0 := Below.cellOf hbx f0
     have HI0 := Lib.hid (Vt.below HI0.out hbx)
     have e1 := Below.cellOf hbx e1
     have f1 := Below.cellOf hbx f1
     have HI1 := Lib.hid (Vt.below HI1.out hbx)
     have e2 := Below.cellOf hbx e2
     have f2 := Below.cellOf hbx f2
     have HI2 := Lib.hid (Vt.below HI2.out hbx)
     have e3 := Below.cellOf hbx e3
     have f3 := Below.cellOf hbx f3
     have HI3 := Lib.hid (Vt.below HI3.out hbx)
     have e4 := Below.cellOf hbx e4
     have f4 := Below.cellOf hbx f4
     have HI4 := Lib.hid (Vt.below HI4.out hbx)
     have e5 := Below.cellOf hbx e5
     have f5 := Below.cellOf hbx f5
     have HI5 := Lib.hid (Vt.below HI5.out hbx)
     have e6 := Below.cellOf hbx e6
     have f6 := Below.cellOf hbx f6
     have HI6 := Lib.hid (Vt.below HI6.out hbx)
     have e7 := Below.cellOf hbx e7
     have f7 := Below.cellOf hbx f7
     have HI7 := Lib.hid (Vt.below HI7.out hbx)
     have HI8 := Lib.hid (Vt.below HI8.out hbx)
     have HBw := Lib.hid (HBw.out.trans ((HX8.out.trans (hbx.mono hz8)).mono (by omega : w.heap.size ≤ X7.heap.size)))
     clear hbx hX
     cases B8
     ·have q : false = B7 := by rw [HDB7.out,HD3.out]; exact (unfine HDB3.out.symm HDB8.out.symm).symm
      subst q
      go_wp2_with fail
      go_ret
      exact ⟨rfl,HBw.out⟩
     ·go_upto_region 25 with fail
      obtain ⟨⟨d9,l9⟩,hd⟩ : ∃ z,z = joinE ⟨ae,al⟩ ⟨d8,l8⟩ := ⟨_,rfl⟩
      obtain ⟨B9,hB⟩ : ∃ z,z = joinB ⟨ae,al⟩ ⟨d8,l8⟩ := ⟨_,rfl⟩
      have hl9 := join_len hd hl0 hl8
      have HD9 := Lib.hid hd
      have HDB9 := Lib.hid hB
      clear hd hB
      go_wp2_with fail
      refine (join_at HD9.out HDB9.out HI0.out HI8.out (by first | omega | simp) (by first | omega | simp)).mono ?_
      rintro e x9 ⟨U9,c9,rfl,HI9,hU,hU',HX9⟩
      have hz9 := HX9.out.size
      have e0 := Below.cellOf HX9.out e0
      have f0 := Below.cellOf HX9.out f0
      have HI0 := Lib.hid (Vt.below HI0.out HX9.out)
      have g0 : w.heap.size < x9.heap.size := by omega
      have e1 := Below.cellOf HX9.out e1
      have f1 := Below.cellOf HX9.out f1
      have HI1 := Lib.hid (Vt.below HI1.out HX9.out)
      have g1 : w.heap.size + 1 < x9.heap.size := by omega
      have e2 := Below.cellOf HX9.out e2
      have f2 := Below.cellOf HX9.out f2
      have HI2 := Lib.hid (Vt.below HI2.out HX9.out)
      have g2 : w.heap.size + 1 + 1 < x9.heap.size := by omega
      have e3 := Below.cellOf HX9.out e3
      have f3 := Below.cellOf HX9.out f3
      have HI3 := Lib.hid (Vt.below HI3.out HX9.out)
      have g3 : x3.heap.size < x9.heap.size := by omega
      have e4 := Below.cellOf HX9.out e4
      have f4 := Below.cellOf HX9.out f4
      have HI4 := Lib.hid (Vt.below HI4.out HX9.out)
      have g4 : x4.heap.size < x9.heap.size := by omega
      have e5 := Below.cellOf HX9.out e5
      have f5 := Below.cellOf HX9.out f5
      have HI5 := Lib.hid (Vt.below HI5.out HX9.out)
      have g5 : x5.heap.size < x9.heap.size := by omega
      have e6 := Below.cellOf HX9.out e6
      have f6 := Below.cellOf HX9.out f6
      have HI6 := Lib.hid (Vt.below HI6.out HX9.out)
      have g6 : x6.heap.size < x9.heap.size := by omega
      have e7 := Below.cellOf HX9.out e7
      have f7 := Below.cellOf HX9.out f7
      have HI7 := Lib.hid (Vt.below HI7.out HX9.out)
      have g7 : x7.heap.size < x9.heap.size := by omega
      have e8 := Below.cellOf HX9.out e8
      have f8 := Below.cellOf HX9.out f8
      have HI8 := Lib.hid (Vt.below HI8.out HX9.out)
      have g8 : x8.heap.size < x9.heap.size := by omega
      dsimp only
      go_upto_region 26 with fail
      obtain ⟨X9,hX⟩ : ∃ y,y = x9.alloc (.cells #[.bool d9,.slice U9 l9.length c9] 46) := ⟨_,rfl⟩
      rw [← hX]
      have hy9 : X9.heap.size = x9.heap.size + 1 := by rw [hX]; simp
      have e9 : X9.cell? ⟨x9.heap.size,1,none⟩ = some (.slice U9 l9.length c9) := by rw [hX]; go_simp
      have f9 : X9.cell? ⟨x9.heap.size,0,none⟩ = some (.bool d9) := by rw [hX]; go_simp
      have hbx : Below x9.heap.size x9 X9 := by rw [hX]; exact (Below.refl _ _).alloc (Nat.le_refl _) _
      have e0 := Below.cellOf hbx e0
      have f0 := Below.cellOf hbx f0
      have HI0 := Lib.hid (Vt.below HI0.out hbx)
      have e1 := Below.cellOf hbx e1
      have f1 := Below.cellOf hbx f1
      have HI1 := Lib.hid (Vt.below HI1.out hbx)
      have e2 := Below.cellOf hbx e2
      have f2 := Below.cellOf hbx f2
      have HI2 := Lib.hid (Vt.below HI2.out hbx)
      have e3 := Below.cellOf hbx e3
      have f3 := Below.cellOf hbx f3
      have HI3 := Lib.hid (Vt.below HI3.out hbx)
      have e4 := Below.cellOf hbx e4
      have f4 := Below.cellOf hbx f4
      have HI4 := Lib.hid (Vt.below HI4.out hbx)
      have e5 := Below.cellOf hbx e5
      have f5 := Below.cellOf hbx f5
      have HI5 := Lib.hid (Vt.below HI5.out hbx)
      have e6 := Below.cellOf hbx e6
      have f6 := Below.cellOf hbx f6
      have HI6 := Lib.hid (Vt.below HI6.out hbx)
      have e7 := Below.cellOf hbx e7
      have f7 := Below.cellOf hbx f7
      have HI7 := Lib.hid (Vt.below HI7.out hbx)
      have e8 := Below.cellOf hbx e8
      have f8 := Below.cellOf hbx f8
      have HI8 := Lib.hid (Vt.below HI8.out hbx)
      have HI9 := Lib.hid (Vt.below HI9.out hbx)
      have HBw := Lib.hid (HBw.out.trans ((HX9.out.trans (hbx.mono hz9)).mono (by omega : w.heap.size ≤ X8.heap.size)))
      clear hbx hX
      have q : B7 = B9 := by rw [HDB7.out,HD3.out,HDB9.out,HD8.out]; exact (join_assoc HEA.out HEB.out HEC.out HDB3.out.symm HDB8.out.symm).1
      subst q
      have s4 := Lib.hid (show sameE ⟨d7,l7⟩ ⟨d9,l9⟩ = true by rw [HD7.out,HD3.out,HD9.out,HD8.out]; exact (join_assoc HEA.out HEB.out HEC.out HDB3.out.symm HDB8.out.symm).2)
      go_wp2_with fail
      refine (same_at s4.out HI7.out HI9.out).mono ?_
      rintro e y9 ⟨rfl,HY⟩
      have hz := HY.out.size
      have e0 := Below.cellOf HY.out e0
      have f0 := Below.cellOf HY.out f0
      have HI0 := Lib.hid (Vt.below HI0.out HY.out)
      have g0 : w.heap.size < y9.heap.size := by omega
      have e1 := Below.cellOf HY.out e1
      have f1 := Below.cellOf HY.out f1
      have HI1 := Lib.hid (Vt.below HI1.out HY.out)
      have g1 : w.heap.size + 1 < y9.heap.size := by omega
      have e2 := Below.cellOf HY.out e2
      have f2 := Below.cellOf HY.out f2
      have HI2 := Lib.hid (Vt.below HI2.out HY.out)
      have g2 : w.heap.size + 1 + 1 < y9.heap.size := by omega
      have e3 := Below.cellOf HY.out e3
      have f3 := Below.cellOf HY.out f3
      have HI3 := Lib.hid (Vt.below HI3.out HY.out)
      have g3 : x3.heap.size < y9.heap.size := by omega
      have e4 := Below.cellOf HY.out e4
      have f4 := Below.cellOf HY.out f4
      have HI4 := Lib.hid (Vt.below HI4.out HY.out)
      have g4 : x4.heap.size < y9.heap.size := by omega
      have e5 := Below.cellOf HY.out e5
      have f5 := Below.cellOf HY.out f5
      have HI5 := Lib.hid (Vt.below HI5.out HY.out)
      have g5 : x5.heap.size < y9.heap.size := by omega
      have e6 := Below.cellOf HY.out e6
      have f6 := Below.cellOf HY.out f6
      have HI6 := Lib.hid (Vt.below HI6.out HY.out)
      have g6 : x6.heap.size < y9.heap.size := by omega
      have e7 := Below.cellOf HY.out e7
      have f7 := Below.cellOf HY.out f7
      have HI7 := Lib.hid (Vt.below HI7.out HY.out)
      have g7 : x7.heap.size < y9.heap.size := by omega
      have e8 := Below.cellOf HY.out e8
      have f8 := Below.cellOf HY.out f8
      have HI8 := Lib.hid (Vt.below HI8.out HY.out)
      have g8 : x8.heap.size < y9.heap.size := by omega
      have e9 := Below.cellOf HY.out e9
      have f9 := Below.cellOf HY.out f9
      have HI9 := Lib.hid (Vt.below HI9.out HY.out)
      have g9 : x9.heap.size < y9.heap.size := by omega
      have HBw := Lib.hid (HBw.out.trans (HY.out.mono (by omega : w.heap.size ≤ X9.heap.size)))
      clear HY
      dsimp only
      go_wp2_with fail
      go_ret
      exact ⟨rfl,HBw.out⟩
end Go.Proofs.YtjojbhkgdkcaoaaGreat
namespace Go.Proofs.YtjojbhkgdkcaoaaGreat
open Go.ChangeShapes Go.WideShapes Go.ChangeAt Go.RowKit Go.Joins Go.Deep Go.Bh
theorem cat_ints {w : World} {b : Nat} : ∀ (l : List Int) (o : Nat),(∀ j,j < l.length → w.cell? ⟨b,o + j,none⟩ = some (.int .i64 (l.getD j 0)) ∧ -9223372036854775808 ≤ l.getD j 0 ∧ l.getD j 0 ≤ 9223372036854775807) → CAt (fun _ => True) w b (ints l) o
 | [],_,_ => trivial
 | x :: l,o,h => by
  have h0 := h 0 (by simp)
  refine ⟨⟨_,h0.1,rfl,h0.2.1,h0.2.2⟩,cat_ints l (o + 1) fun j hj => ?_⟩
  have := h (j + 1) (by simp; omega)
  rw [show o + 1 + j = o + (j + 1) by omega]
  simpa using this
theorem has_addr {P : Program} {w : World} {r : Reach} {base n : Nat} {a : Addr} {e : TypeId} (h : w.has P r base a e n) : a = ⟨a.block,a.off,none⟩ := by
 obtain ⟨_,h1,row,cells,h2,_⟩ := h
 obtain ⟨b,o,s⟩ := a; simp at h1; subst h1; rfl
theorem slice_addr {P : Program} {w : World} {r : Reach} {base len cap : Nat} {T E : TypeId} {a : Addr} (ht : P.underlying T = some (.slice E)) (h : Cell.okWide P w r base T (.slice (some a) len cap)) : a = ⟨a.block,a.off,none⟩ := by
 simp only [Cell.okWide,ht,Cell.ok] at h
 exact has_addr h.2.2
section
variable {H : Type} {enc : TypeId × Value → H} {w : World} {base base0 : Nat} {spare : Nat → Bool} {held : Bool}
theorem open_is {fuel : Nat} {v : Value} {x : DataW H × List MemPlace} (h : DataW.trod enc Tryz.prog w base spare held fuel 22 [v] = some x) (ho : Cell.okWide Tryz.prog w .any base0 22 v) :
  ∃ l : List Int,Is w l v := by
 rcases open_ints Tryz.underlying22 Tryz.underlying3 (by kernel_rfl) h with ⟨hcs,_⟩ | ⟨a,len,cap,zs,hcs,_,hl,hm,hz,_,hcell,hwf⟩
 ·simp at hcs
  subst hcs
  exact ⟨[],none,0,rfl,by simp [ints],by simp [maxLen],.inl rfl⟩
 ·simp at hcs
  subst hcs
  have ha := slice_addr Tryz.underlying22 ho
  generalize a.block = b at ha
  generalize a.off = off at ha
  subst ha
  have hzl : len ≤ zs.length := by rw [hz]; split <;> omega
  have hll : (zs.take len).length = len := by rw [List.length_take]; omega
  refine ⟨zs.take len,some ⟨b,off,none⟩,cap,by rw [hll],by rw [hll]; exact hl,hm,.inr ⟨b,off,rfl,trivial,cat_ints _ _ fun j hj => ?_⟩⟩
  rw [hll] at hj
  have := hcell j (by omega)
  rw [show (⟨b,off,none⟩ : Addr).add j = ⟨b,off + j,none⟩ by unfold Addr.add; split <;> simp_all] at this
  have e1 : (zs.take len).getD j 0 = zs.getD j 0 := by simp [List.getD_eq_getElem?_getD,List.getElem?_take,hj]
  rw [e1]
  refine ⟨this,?_⟩
  have hw := hwf (zs.getD j 0) (by rw [List.getD_eq_getElem?_getD,List.getElem?_eq_getElem (by omega)]; simp)
  have hmin : IntKind.i64.min = -9223372036854775808 := by decide
  simpa [Lit.wf,hmin] using hw
theorem Tryz.under46 : ∃ f0 f1,Tryz.prog.underlying 46 = some (.struct #[f0,f1]) ∧ f0.type = 4 ∧ f1.type = 22 ∧ oneCellFields Tryz.prog #[f0,f1] = true ∧ Tryz.prog.cellsOf 46 = 2 := ⟨_,_,Tryz.underlying46,by kernel_rfl,by kernel_rfl,by kernel_rfl,by kernel_rfl⟩
theorem open_func {v : Value} {d : DataW H} {p : List MemPlace} (hv : Value.okWide Tryz.prog w .any base0 46 v) (h : DataW.Trod enc Tryz.prog w base spare held 46 v d p) : ∃ (e : Bool) (l : List Int) (u : Value),v = .agg #[.bool e,u] ∧ Is w l u := by
 obtain ⟨f0,f1,hu,t0,t1,hone,hC⟩ := Tryz.under46
 obtain ⟨v0,v1,y0,y1,n,rfl,_,_,d0,d1⟩ := open_agg2 hu hone hC hv h
 rw [t0] at d0
 rw [t1] at d1
 have hrow : Row.okWide Tryz.prog w .any base0 46 #[v0,v1] := by
  simp only [Value.okWide,hu] at hv
  obtain ⟨cs,h1,_,h2⟩ := hv
  injection h1 with h1
  rw [h1]; exact h2
 obtain ⟨ts,hts,_,hcell⟩ := hrow
 have hts' : Tryz.prog.cellTypes Tryz.prog.depth 46 = some [4,22] := by kernel_rfl
 rw [hts'] at hts
 injection hts with hts
 subst hts
 obtain ⟨u1,hu1,ho1⟩ := hcell 1 v1 rfl
 simp at hu1
 subst hu1
 obtain ⟨b0,e0,_⟩ := DataW.trod_bool Tryz.underlying4 d0
 simp at e0
 subst e0
 obtain ⟨l,hl⟩ := open_is d1 ho1
 exact ⟨b0,l,v1,rfl,hl⟩
end
end Go.Proofs.YtjojbhkgdkcaoaaGreat
namespace Go.Proofs.YtjojbhkgdkcaoaaGreat
open Go
theorem behJoined_facts : joinedFacts Tryz.pinned.checked.prog 5 Tryz.f5 Rows.behJoinedSpec Rows.behJoinedRow = true := by
 unfold joinedFacts
 simp only [Bool.and_eq_true]
 repeat' refine And.intro ?_ ?_
 all_goals (as_aux_lemma => kernel_rfl)
end Go.Proofs.YtjojbhkgdkcaoaaGreat
