/- A part of the proof: texts of this session, joined. -/
import Derived.Test.YtjojbhkgdkcaoaaGreatBehOrderOwn10
import Derived.Test.YtjojbhkgdkcaoaaGreatBehOrderOwn9
import Derived.Test.YtjojbhkgdkcaoaaGreatBehOrderOwn8
import Derived.ChangeArms
import Derived.DataReads
import Derived.Deep.Slices
import Derived.Lib.AppendZerosOnto
import Derived.Test.YtjojbhkgdkcaoaaGreatRows
import Derived.ProofKit
import Derived.OpenShut
import Derived.JoinedCond
import Derived.Test.YtjojbhkgdkcaoaaGreatShort
set_option linter.unusedSimpArgs false
set_option linter.unusedVariables false
set_option maxHeartbeats 12800000
set_option maxRecDepth 100000
namespace Go.Proofs.YtjojbhkgdkcaoaaGreat
open Go Go.RowKit Go.Bh Go.Shelf Go.Proofs.YtjojbhkgdkcaoaaGreatW.PrintLast
theorem compareI_b (a b : List Int) (w : World) (va vb : Value) (ha : Is w a va) (hb : Is w b vb) :
  Calls Tryz.prog 105 #[va,vb] w fun e w' => e = .returned (.int .i64 (lexC cmpI a b)) ∧ Below w.heap.size w w' :=
 (compareI_ok a b w va vb ha hb).mono fun e w' ⟨h1,h2⟩ => ⟨h1,by subst h2; exact Below.refl _ _⟩
theorem rcmpB_ok : ∀ (x y : Be) (w : World) (u v : Value),BR x → BR y → Bv w x u → Bv w y v →
  Calls Tryz.prog 50 #[u,v] w fun e w' => e = .returned (.int .i64 (cmpB x y)) ∧ Below w.heap.size w w' := by
 refine Be.ind fun kind n gate lo hi gates offers conds sorts t l ih => ?_
 rintro ⟨kind',n',gate',lo',hi',gates',offers',conds',sorts',t',l'⟩ w u v hr1 hr2 ⟨vg,vo,vc,vs,vt,vl,rfl,h1,h2,h3,h4,h5,h6⟩ ⟨wg,wo,wc,ws,wt,wl,rfl,g1,g2,g3,g4,g5,g6⟩
 dsimp only [Be.kind,Be.n,Be.gate,Be.lo,Be.hi,Be.gates,Be.offers,Be.conds,Be.sorts,Be.t,Be.l] at *
 obtain ⟨A0,c0,rfl,_,qa0⟩ := VAt.slice h1
 obtain ⟨A1,c1,rfl,_,qa1⟩ := VAt.slice h2
 obtain ⟨A2,c2,rfl,_,qa2⟩ := VAt.slice h3
 obtain ⟨A3,c3,rfl,_,qa3⟩ := VAt.slice h4
 obtain ⟨A4,c4,rfl,_,qa4⟩ := VAt.slice h5
 obtain ⟨A5,c5,rfl,_,qa5⟩ := VAt.slice h6
 obtain ⟨B0,d0,rfl,_,qb0⟩ := VAt.slice g1
 obtain ⟨B1,d1,rfl,_,qb1⟩ := VAt.slice g2
 obtain ⟨B2,d2,rfl,_,qb2⟩ := VAt.slice g3
 obtain ⟨B3,d3,rfl,_,qb3⟩ := VAt.slice g4
 obtain ⟨B4,d4,rfl,_,qb4⟩ := VAt.slice g5
 obtain ⟨B5,d5,rfl,_,qb5⟩ := VAt.slice g6
 unfold maxLen at qa5 qb5
 obtain ⟨res,hres⟩ : ∃ z,z = cmpB (.mk kind n gate lo hi gates offers conds sorts t l) (.mk kind' n' gate' lo' hi' gates' offers' conds' sorts' t' l') := ⟨_,rfl⟩
 rw [← hres]
 rw [cmpB,cmpBs_eq] at hres
 obtain ⟨r0,hr0⟩ : ∃ z,z = lexC cmpI [kind,n,gate,lo,hi] [kind',n',gate',lo',hi'] := ⟨_,rfl⟩
 obtain ⟨r1,hr1'⟩ : ∃ z,z = lexC cmpI gates gates' := ⟨_,rfl⟩
 obtain ⟨r2,hr2'⟩ : ∃ z,z = lexC cmpO offers offers' := ⟨_,rfl⟩
 obtain ⟨r3,hr3⟩ : ∃ z,z = lexC cmpP conds conds' := ⟨_,rfl⟩
 obtain ⟨r4,hr4⟩ : ∃ z,z = lexC cmpI sorts sorts' := ⟨_,rfl⟩
 obtain ⟨r5,hr5⟩ : ∃ z,z = lexC cmpT t t' := ⟨_,rfl⟩
 rw [← hr0,← hr1',← hr2',← hr3,← hr4,← hr5] at hres
 obtain ⟨W1,hW1⟩ : ∃ z,z = (w.alloc (.cells #[.int .i64 kind,.int .i64 n,.int .i64 gate,.int .i64 lo,.int .i64 hi,.slice A0 gates.length c0,.slice A1 offers.length c1,.slice A2 conds.length c2,.slice A3 sorts.length c3,.slice A4 t.length c4,.slice A5 l.length c5] 28)).alloc (.cells #[.int .i64 kind',.int .i64 n',.int .i64 gate',.int .i64 lo',.int .i64 hi',.slice B0 gates'.length d0,.slice B1 offers'.length d1,.slice B2 conds'.length d2,.slice B3 sorts'.length d3,.slice B4 t'.length d4,.slice B5 l'.length d5] 28) := ⟨_,rfl⟩
 have hz1 : W1.heap.size = w.heap.size + 2 := by rw [hW1]; simp
 have hb1 : Below w.heap.size w W1 := by rw [hW1]; exact ((Below.refl _ w).alloc (Nat.le_refl _) _).alloc (by simp) _
 have k0 : W1.heap[w.heap.size]? = some (.cells #[.int .i64 kind,.int .i64 n,.int .i64 gate,.int .i64 lo,.int .i64 hi,.slice A0 gates.length c0,.slice A1 offers.length c1,.slice A2 conds.length c2,.slice A3 sorts.length c3,.slice A4 t.length c4,.slice A5 l.length c5] 28) := by rw [hW1]; exact (Below.heap_alloc _ _ _ (by simp)).trans (World.alloc_heap_new w _)
 have k1 : W1.heap[w.heap.size + 1]? = some (.cells #[.int .i64 kind',.int .i64 n',.int .i64 gate',.int .i64 lo',.int .i64 hi',.slice B0 gates'.length d0,.slice B1 offers'.length d1,.slice B2 conds'.length d2,.slice B3 sorts'.length d3,.slice B4 t'.length d4,.slice B5 l'.length d5] 28) := by rw [hW1]; have := World.alloc_heap_new (w.alloc (.cells #[.int .i64 kind,.int .i64 n,.int .i64 gate,.int .i64 lo,.int .i64 hi,.slice A0 gates.length c0,.slice A1 offers.length c1,.slice A2 conds.length c2,.slice A3 sorts.length c3,.slice A4 t.length c4,.slice A5 l.length c5] 28)) (.cells #[.int .i64 kind',.int .i64 n',.int .i64 gate',.int .i64 lo',.int .i64 hi',.slice B0 gates'.length d0,.slice B1 offers'.length d1,.slice B2 conds'.length d2,.slice B3 sorts'.length d3,.slice B4 t'.length d4,.slice B5 l'.length d5] 28); simpa using this
 obtain ⟨W3,hW3⟩ : ∃ z,z = (W1.alloc (.cells #[.int .i64 kind,.int .i64 n,.int .i64 gate,.int .i64 lo,.int .i64 hi] 3)).alloc (.cells #[.int .i64 kind',.int .i64 n',.int .i64 gate',.int .i64 lo',.int .i64 hi'] 3) := ⟨_,rfl⟩
 have hz3 : W3.heap.size = w.heap.size + 4 := by rw [hW3]; simp; omega
 have hb3 : Below W1.heap.size W1 W3 := by rw [hW3]; exact ((Below.refl _ W1).alloc (Nat.le_refl _) _).alloc (by simp) _
 have hq : ∀ z ∈ [kind,n,gate,lo,hi],InR z := fun z hz => hr1 z (by simpa [Be.kind,Be.n,Be.gate,Be.lo,Be.hi] using hz)
 have hq' : ∀ z ∈ [kind',n',gate',lo',hi'],InR z := fun z hz => hr2 z (by simpa [Be.kind,Be.n,Be.gate,Be.lo,Be.hi] using hz)
 have hI : Is W3 [kind,n,gate,lo,hi] (.slice (some ⟨W1.heap.size,0,none⟩) 5 5) := by
  rw [hW3]; exact Vt.below (is_five W1 kind n gate lo hi hq) ((Below.refl _ _).alloc (Nat.le_refl _) _)
 have hI' : Is W3 [kind',n',gate',lo',hi'] (.slice (some ⟨W1.heap.size + 1,0,none⟩) 5 5) := by
  have := is_five (W1.alloc (.cells #[.int .i64 kind,.int .i64 n,.int .i64 gate,.int .i64 lo,.int .i64 hi] 3)) kind' n' gate' lo' hi' hq'
  rw [hW3]; simpa using this
 have HC0 := Lib.hid (compareI_b _ _ W3 _ _ hI hI')
 rw [← hr0,hz1] at HC0
 have hw3 : Below w.heap.size w W3 := hb1.trans (hb3.mono (by omega))
 have HC1 := Lib.hid (fun (W : World) (hW : Below w.heap.size w W) => compareI_b _ _ W _ _ (Vt.below h1 hW) (Vt.below g1 hW))
 have HC2 := Lib.hid (fun (W : World) (hW : Below w.heap.size w W) => r130_ok _ _ W _ _ (Vt.below h2 hW) (Vt.below g2 hW))
 have HC3 := Lib.hid (fun (W : World) (hW : Below w.heap.size w W) => r131_ok _ _ W _ _ (Vt.below h3 hW) (Vt.below g3 hW))
 have HC4 := Lib.hid (fun (W : World) (hW : Below w.heap.size w W) => compareI_b _ _ W _ _ (Vt.below h4 hW) (Vt.below g4 hW))
 have HC5 := Lib.hid (fun (W : World) (hW : Below w.heap.size w W) => r132_ok _ _ W _ _ (Vt.below h5 hW) (Vt.below g5 hW))
 rw [← hr1'] at HC1
 rw [← hr2'] at HC2
 rw [← hr3] at HC3
 rw [← hr4] at HC4
 rw [← hr5] at HC5
 have HL := Lib.hid h6
 have HL' := Lib.hid g6
 have HRES := Lib.hid hres
 have IH := Lib.hid ih
 have HB3 := Lib.hid hw3
 have K0 := Lib.hid ((hb3.block w.heap.size (by omega)).trans k0)
 have K1 := Lib.hid ((hb3.block (w.heap.size + 1) (by omega)).trans k1)
 have HW1 := Lib.hid hW1
 have HW3 := Lib.hid hW3
 have p0 := cell_at k0 0 rfl
 have q0 := cell_at k1 0 rfl
 have p1 := cell_at k0 1 rfl
 have q1 := cell_at k1 1 rfl
 have p2 := cell_at k0 2 rfl
 have q2 := cell_at k1 2 rfl
 have p3 := cell_at k0 3 rfl
 have q3 := cell_at k1 3 rfl
 have p4 := cell_at k0 4 rfl
 have q4 := cell_at k1 4 rfl
 clear hr0 hr1' hr2' hr3 hr4 hr5 hr1 hr2 h1 h2 h3 h4 h5 h6 g1 g2 g3 g4 g5 g6 hres ih k0 k1 hb1 hb3 hq hq' hI hI' hW1 hW3 hw3
 go_enter Tryz.func50,Tryz.ntmps50
 go_upto_region 1 with fail
 rw [← HW1.out]
 go_upto_region 2 with fail
 have q0 := ca q0 (.cells #[.int .i64 kind,.int .i64 n,.int .i64 gate,.int .i64 lo,.int .i64 hi] 3)
 have q1 := ca q1 (.cells #[.int .i64 kind,.int .i64 n,.int .i64 gate,.int .i64 lo,.int .i64 hi] 3)
 have q2 := ca q2 (.cells #[.int .i64 kind,.int .i64 n,.int .i64 gate,.int .i64 lo,.int .i64 hi] 3)
 have q3 := ca q3 (.cells #[.int .i64 kind,.int .i64 n,.int .i64 gate,.int .i64 lo,.int .i64 hi] 3)
 have q4 := ca q4 (.cells #[.int .i64 kind,.int .i64 n,.int .i64 gate,.int .i64 lo,.int .i64 hi] 3)
 go_upto_region 3 with fail
 rw [← HW3.out]
 clear p0 p1 p2 p3 p4 q0 q1 q2 q3 q4
 go_wp2_with fail
 refine HC0.out.mono ?_
 rintro e x0 ⟨rfl,hb⟩
 have HX0 := Lib.hid (HB3.out.trans (hb.mono (by omega)))
 have kk0 := (hb.block w.heap.size (by have := hb.size; omega)).trans K0.out
 have kk1 := (hb.block (w.heap.size + 1) (by have := hb.size; omega)).trans K1.out
 have KA0 := Lib.hid kk0
 have KB0 := Lib.hid kk1
 have hs0 : w.heap.size + 4 ≤ x0.heap.size := by have := hb.size; omega
 have y0 := cell_at kk0 5 rfl
 have y1 := cell_at kk1 5 rfl
 clear kk0 kk1 hb
 dsimp only
 by_cases e0 : r0 = 0
 rotate_left
 ·have e0' : (r0 == 0) = false := by simpa using e0
  go_wp2_with fail
  go_ret
  exact ⟨by rw [HRES.out]; simp [orI,e0],HX0.out⟩
 have E0 := Lib.hid e0
 rw [e0]
 go_wp2_with fail
 clear y0 y1
 refine (HC1.out _ HX0.out).mono ?_
 rintro e x1 ⟨rfl,hb⟩
 have HX1 := Lib.hid (HX0.out.trans (hb.mono (HX0.out.size)))
 have kk0 := (hb.block w.heap.size (by have := hb.size; omega)).trans KA0.out
 have kk1 := (hb.block (w.heap.size + 1) (by have := hb.size; omega)).trans KB0.out
 have KA1 := Lib.hid kk0
 have KB1 := Lib.hid kk1
 have hs1 : w.heap.size + 4 ≤ x1.heap.size := by have := hb.size; omega
 have y0 := cell_at kk0 6 rfl
 have y1 := cell_at kk1 6 rfl
 clear kk0 kk1 hb
 dsimp only
 by_cases e1 : r1 = 0
 rotate_left
 ·have e1' : (r1 == 0) = false := by simpa using e1
  go_wp2_with fail
  go_ret
  exact ⟨by rw [HRES.out]; simp [orI,e0,e1],HX1.out⟩
 have E1 := Lib.hid e1
 rw [e1]
 go_wp2_with fail
 clear y0 y1
 refine (HC2.out _ HX1.out).mono ?_
 rintro e x2 ⟨rfl,hb⟩
 have HX2 := Lib.hid (HX1.out.trans (hb.mono (HX1.out.size)))
 have kk0 := (hb.block w.heap.size (by have := hb.size; omega)).trans KA1.out
 have kk1 := (hb.block (w.heap.size + 1) (by have := hb.size; omega)).trans KB1.out
 have KA2 := Lib.hid kk0
 have KB2 := Lib.hid kk1
 have hs2 : w.heap.size + 4 ≤ x2.heap.size := by have := hb.size; omega
 have y0 := cell_at kk0 7 rfl
 have y1 := cell_at kk1 7 rfl
 clear kk0 kk1 hb
 dsimp only
 by_cases e2 : r2 = 0
 rotate_left
 ·have e2' : (r2 == 0) = false := by simpa using e2
  go_wp2_with fail
  go_ret
  exact ⟨by rw [HRES.out]; simp [orI,e0,e1,e2],HX2.out⟩
 have E2 := Lib.hid e2
 rw [e2]
 go_wp2_with fail
 clear y0 y1
 refine (HC3.out _ HX2.out).mono ?_
 rintro e x3 ⟨rfl,hb⟩
 have HX3 := Lib.hid (HX2.out.trans (hb.mono (HX2.out.size)))
 have kk0 := (hb.block w.heap.size (by have := hb.size; omega)).trans KA2.out
 have kk1 := (hb.block (w.heap.size + 1) (by have := hb.size; omega)).trans KB2.out
 have KA3 := Lib.hid kk0
 have KB3 := Lib.hid kk1
 have hs3 : w.heap.size + 4 ≤ x3.heap.size := by have := hb.size; omega
 have y0 := cell_at kk0 8 rfl
 have y1 := cell_at kk1 8 rfl
 clear kk0 kk1 hb
 dsimp only
 by_cases e3 : r3 = 0
 rotate_left
 ·have e3' : (r3 == 0) = false := by simpa using e3
  go_wp2_with fail
  go_ret
  exact ⟨by rw [HRES.out]; simp [orI,e0,e1,e2,e3],HX3.out⟩
 have E3 := Lib.hid e3
 rw [e3]
 go_wp2_with fail
 clear y0 y1
 refine (HC4.out _ HX3.out).mono ?_
 rintro e x4 ⟨rfl,hb⟩
 have HX4 := Lib.hid (HX3.out.trans (hb.mono (HX3.out.size)))
 have kk0 := (hb.block w.heap.size (by have := hb.size; omega)).trans KA3.out
 have kk1 := (hb.block (w.heap.size + 1) (by have := hb.size; omega)).trans KB3.out
 have KA4 := Lib.hid kk0
 have KB4 := Lib.hid kk1
 have hs4 : w.heap.size + 4 ≤ x4.heap.size := by have := hb.size; omega
 have y0 := cell_at kk0 9 rfl
 have y1 := cell_at kk1 9 rfl
 clear kk0 kk1 hb
 dsimp only
 by_cases e4 : r4 = 0
 rotate_left
 ·have e4' : (r4 == 0) = false := by simpa using e4
  go_wp2_with fail
  go_ret
  exact ⟨by rw [HRES.out]; simp [orI,e0,e1,e2,e3,e4],HX4.out⟩
 have E4 := Lib.hid e4
 rw [e4]
 go_wp2_with fail
 clear y0 y1
 refine (HC5.out _ HX4.out).mono ?_
 rintro e x5 ⟨rfl,hb⟩
 have HX5 := Lib.hid (HX4.out.trans (hb.mono (HX4.out.size)))
 have kk0 := (hb.block w.heap.size (by have := hb.size; omega)).trans KA4.out
 have kk1 := (hb.block (w.heap.size + 1) (by have := hb.size; omega)).trans KB4.out
 have KA5 := Lib.hid kk0
 have KB5 := Lib.hid kk1
 have hs5 : w.heap.size + 4 ≤ x5.heap.size := by have := hb.size; omega
 have y0 := cell_at kk0 10 rfl
 have y1 := cell_at kk1 10 rfl
 clear kk0 kk1 hb
 dsimp only
 by_cases e5 : r5 = 0
 rotate_left
 ·have e5' : (r5 == 0) = false := by simpa using e5
  go_wp2_with fail
  go_ret
  exact ⟨by rw [HRES.out]; simp [orI,e0,e1,e2,e3,e4,e5],HX5.out⟩
 have E5 := Lib.hid e5
 rw [e5]
 have HR : Hid (res = lexC cmpB l l') := Lib.hid (by rw [HRES.out]; simp [orI,E0.out,E1.out,E2.out,E3.out,E4.out,E5.out])
 have HW5 := Lib.hid (HX5.out)
 go_upto_region 22 with fail
 go_loopw [13] (fun i wr => ∃ m : Nat,m ≤ l.length ∧ i = .int .i64 m ∧ m ≤ l'.length ∧ Hid (res = lexC cmpB (l.drop m) (l'.drop m)) ∧ Hid (Below x5.heap.size x5 wr)) (fun i _ => l.length - (intOf i).toNat)
 case atStart => exact ⟨0,Nat.zero_le _,rfl,Nat.zero_le _,Lib.hid (by simpa using HR.out),Lib.hid (Below.refl _ _)⟩
 case round =>
  obtain ⟨m,hm,rfl,hmb,HE,HB⟩ := hrel
  have kk0 := (HB.out.block w.heap.size (by omega)).trans KA5.out
  have kk1 := (HB.out.block (w.heap.size + 1) (by omega)).trans KB5.out
  have y0 := cell_at kk0 10 rfl
  have y1 := cell_at kk1 10 rfl
  have hbr : Below w.heap.size w wr := HX5.out.trans (HB.out.mono (by omega))
  clear kk0 kk1
  by_cases hlt : m < l.length
  ·by_cases hbl : m < l'.length
   ·obtain ⟨xx,hx⟩ : ∃ z,l[m]? = some z := ⟨_,List.getElem?_eq_getElem hlt⟩
    obtain ⟨yy,hy⟩ : ∃ z,l'[m]? = some z := ⟨_,List.getElem?_eq_getElem hbl⟩
    have HST := Lib.hid (lexC_step (c := cmpB) hx hy)
    have i1 : (0 : Int) ≤ (m : Int) := by omega
    have i2 : (m : Int) < (l.length : Int) := by omega
    have i3 : (m : Int) < (l'.length : Int) := by omega
    obtain ⟨r,hr⟩ : ∃ z,z = cmpB xx yy := ⟨_,rfl⟩
    have hbx := br_get HL.out hx
    have hby := br_get HL'.out hy
    have hIH := IH.out xx (List.mem_of_getElem? hx) yy wr.drew
    obtain ⟨x0,x1,x2,x3,x4,x5a,x6,x7,x8,x9,x10⟩ := xx
    obtain ⟨z0,z1,z2,z3,z4,z5,z6,z7,z8,z9,z10⟩ := yy
    obtain ⟨bb,bo,F5,f5,F6,f6,F7,f7,F8,f8,F9,f9,F10,f10,rfl,_,e0,e1,e2,e3,e4,e5,e6,e7,e8,e9,e10,_,_,_,_,_,p5,p6,p7,p8,p9,p10⟩ := BsP.get HL.out hx
    obtain ⟨gb,go,G5,g5,G6,g6,G7,g7,G8,g8,G9,g9,G10,g10,rfl,_,u0,u1,u2,u3,u4,u5,u6,u7,u8,u9,u10,_,_,_,_,_,s5,s6,s7,s8,s9,s10⟩ := BsP.get HL'.out hy
    have e0 := Below.cellOf hbr e0
    have e1 := Below.cellOf hbr e1
    have e2 := Below.cellOf hbr e2
    have e3 := Below.cellOf hbr e3
    have e4 := Below.cellOf hbr e4
    have e5 := Below.cellOf hbr e5
    have e6 := Below.cellOf hbr e6
    have e7 := Below.cellOf hbr e7
    have e8 := Below.cellOf hbr e8
    have e9 := Below.cellOf hbr e9
    have e10 := Below.cellOf hbr e10
    have u0 := Below.cellOf hbr u0
    have u1 := Below.cellOf hbr u1
    have u2 := Below.cellOf hbr u2
    have u3 := Below.cellOf hbr u3
    have u4 := Below.cellOf hbr u4
    have u5 := Below.cellOf hbr u5
    have u6 := Below.cellOf hbr u6
    have u7 := Below.cellOf hbr u7
    have u8 := Below.cellOf hbr u8
    have u9 := Below.cellOf hbr u9
    have u10 := Below.cellOf hbr u10
    have hbd : Below w.heap.size w wr.drew := hbr.drew
    have HI := Lib.hid (hIH (.agg #[.int .i64 x0,.int .i64 x1,.int .i64 x2,.int .i64 x3,.int .i64 x4,.slice F5 x5a.length f5,.slice F6 x6.length f6,.slice F7 x7.length f7,.slice F8 x8.length f8,.slice F9 x9.length f9,.slice F10 x10.length f10]) (.agg #[.int .i64 z0,.int .i64 z1,.int .i64 z2,.int .i64 z3,.int .i64 z4,.slice G5 z5.length g5,.slice G6 z6.length g6,.slice G7 z7.length g7,.slice G8 z8.length g8,.slice G9 z9.length g9,.slice G10 z10.length g10]) hbx hby ⟨_,_,_,_,_,_,rfl,Vt.below p5 hbd,Vt.below p6 hbd,Vt.below p7 hbd,Vt.below p8 hbd,Vt.below p9 hbd,Vt.below p10 hbd⟩ ⟨_,_,_,_,_,_,rfl,Vt.below s5 hbd,Vt.below s6 hbd,Vt.below s7 hbd,Vt.below s8 hbd,Vt.below s9 hbd,Vt.below s10 hbd⟩)
    rw [← hr] at HI HST
    clear hx hy hbx hby hIH hr p5 p6 p7 p8 p9 p10 s5 s6 s7 s8 s9 s10
    go_upto_region 24 with fail
    refine start_ (n:=12) (S:=fun w' => w'.cell? ⟨w.heap.size,10,none⟩ = some (.slice (some ⟨bb,bo,none⟩) l.length c5) ∧ w'.cell? ⟨w.heap.size + 1,10,none⟩ = some (.slice (some ⟨gb,go,none⟩) l'.length d5) ∧ w'.cell? ⟨bb,bo + m * 11,none⟩ = some (.int .i64 x0) ∧ w'.cell? ⟨bb,bo + m * 11 + 1,none⟩ = some (.int .i64 x1) ∧ w'.cell? ⟨bb,bo + m * 11 + 2,none⟩ = some (.int .i64 x2) ∧ w'.cell? ⟨bb,bo + m * 11 + 3,none⟩ = some (.int .i64 x3) ∧ w'.cell? ⟨bb,bo + m * 11 + 4,none⟩ = some (.int .i64 x4) ∧ w'.cell? ⟨bb,bo + m * 11 + 5,none⟩ = some (.slice F5 x5a.length f5) ∧ w'.cell? ⟨bb,bo + m * 11 + 6,none⟩ = some (.slice F6 x6.length f6) ∧ w'.cell? ⟨bb,bo + m * 11 + 7,none⟩ = some (.slice F7 x7.length f7) ∧ w'.cell? ⟨bb,bo + m * 11 + 8,none⟩ = some (.slice F8 x8.length f8) ∧ w'.cell? ⟨bb,bo + m * 11 + 9,none⟩ = some (.slice F9 x9.length f9) ∧ w'.cell? ⟨bb,bo + m * 11 + 10,none⟩ = some (.slice F10 x10.length f10) ∧ w'.cell? ⟨gb,go + m * 11,none⟩ = some (.int .i64 z0) ∧ w'.cell? ⟨gb,go + m * 11 + 1,none⟩ = some (.int .i64 z1) ∧ w'.cell? ⟨gb,go + m * 11 + 2,none⟩ = some (.int .i64 z2) ∧ w'.cell? ⟨gb,go + m * 11 + 3,none⟩ = some (.int .i64 z3) ∧ w'.cell? ⟨gb,go + m * 11 + 4,none⟩ = some (.int .i64 z4) ∧ w'.cell? ⟨gb,go + m * 11 + 5,none⟩ = some (.slice G5 z5.length g5) ∧ w'.cell? ⟨gb,go + m * 11 + 6,none⟩ = some (.slice G6 z6.length g6) ∧ w'.cell? ⟨gb,go + m * 11 + 7,none⟩ = some (.slice G7 z7.length g7) ∧ w'.cell? ⟨gb,go + m * 11 + 8,none⟩ = some (.slice G8 z8.length g8) ∧ w'.cell? ⟨gb,go + m * 11 + 9,none⟩ = some (.slice G9 z9.length g9) ∧ w'.cell? ⟨gb,go + m * 11 + 10,none⟩ = some (.slice G10 z10.length g10)) (ds := [10]) #[f_,f_,f_,f_,f_,f_,f_,f_,f_,f_,f_,f_] (by kernel_rfl) rfl rfl ⟨y0,y1,e0,e1,e2,e3,e4,e5,e6,e7,e8,e9,e10,u0,u1,u2,u3,u4,u5,u6,u7,u8,u9,u10⟩ (fun hHeld => ?_)
    refine pv_ (i:=0) (N:=some 97) (v:=?_) (a':=?_) rfl rfl (by kernel_rfl) (fun _ _ _ h => h) (Or.inl ⟨by rfl,?_⟩) ?_ ?_
    rotate_left;intro w';go_simp;with_reducible rfl;rotate_left;simp only [Act.put,sA_,sB_,sC_,i64_w,i32_w];rfl
    refine pv_ (i:=2) (N:=some 99) (v:=?_) (a':=?_) rfl rfl (by kernel_rfl) (fun _ _ _ h => h) (Or.inl ⟨by rfl,?_⟩) ?_ ?_
    rotate_left;intro w';go_simp;with_reducible rfl;rotate_left;simp only [Act.put,sA_,sB_,sC_,i64_w,i32_w];rfl
    refine pv_ (i:=5) (N:=some 102) (v:=?_) (a':=?_) rfl rfl (by kernel_rfl) (fun _ _ _ h => h) (Or.inl ⟨by rfl,?_⟩) ?_ ?_
    rotate_left;intro w';go_simp;with_reducible rfl;rotate_left;simp only [Act.put,sA_,sB_,sC_,i64_w,i32_w];rfl
    refine pv_ (i:=7) (N:=some 104) (v:=?_) (a':=?_) rfl rfl (by kernel_rfl) (fun _ _ _ h => h) (Or.inl ⟨by rfl,?_⟩) ?_ ?_
    rotate_left;intro w';go_simp;with_reducible rfl;rotate_left;simp only [Act.put,sA_,sB_,sC_,i64_w,i32_w];rfl
    refine tv_ (i:=1) (N:=some 98) (v:=?_) (a':=?_) rfl rfl (by kernel_rfl) (fun _ _ _ h => h) (Or.inl ⟨by rfl,?_⟩) hHeld ?_ ?_
    rotate_left;rintro w' ⟨s0,s1,s2,s3,s4,s5,s6,s7,s8,s9,s10,s11,s12,s13,s14,s15,s16,s17,s18,s19,s20,s21,s22,s23⟩;go_simp;with_reducible rfl;rotate_left;simp only [Act.put,sA_,sB_,sC_,i64_w,i32_w];rfl
    refine pv_ (i:=3) (N:=some 100) (v:=?_) (a':=?_) rfl rfl (by kernel_rfl) (fun _ _ _ h => h) (Or.inl ⟨by rfl,?_⟩) ?_ ?_
    rotate_left;intro w';go_simp;with_reducible rfl;rotate_left;simp only [Act.put,sA_,sB_,sC_,i64_w,i32_w];rfl
    refine tv_ (i:=4) (N:=some 101) (v:=?_) (a':=?_) rfl rfl (by kernel_rfl) (fun _ _ _ h => h) (Or.inl ⟨by rfl,?_⟩) hHeld ?_ ?_
    rotate_left;rintro w' ⟨s0,s1,s2,s3,s4,s5,s6,s7,s8,s9,s10,s11,s12,s13,s14,s15,s16,s17,s18,s19,s20,s21,s22,s23⟩;go_simp;with_reducible rfl;rotate_left;simp only [Act.put,sA_,sB_,sC_,i64_w,i32_w];rfl
    refine tv_ (i:=6) (N:=some 103) (v:=?_) (a':=?_) rfl rfl (by kernel_rfl) (fun _ _ _ h => h) (Or.inl ⟨by rfl,?_⟩) hHeld ?_ ?_
    rotate_left;rintro w' ⟨s0,s1,s2,s3,s4,s5,s6,s7,s8,s9,s10,s11,s12,s13,s14,s15,s16,s17,s18,s19,s20,s21,s22,s23⟩;go_simp;with_reducible rfl;rotate_left;simp only [Act.put,sA_,sB_,sC_,i64_w,i32_w];rfl
    refine pv_ (i:=8) (N:=some 105) (v:=?_) (a':=?_) rfl rfl (by kernel_rfl) (fun _ _ _ h => h) (Or.inl ⟨by rfl,?_⟩) ?_ ?_
    rotate_left;intro w';go_simp;with_reducible rfl;rotate_left;simp only [Act.put,sA_,sB_,sC_,i64_w,i32_w];rfl
    refine tv_ (i:=9) (N:=some 106) (v:=?_) (a':=?_) rfl rfl (by kernel_rfl) (fun _ _ _ h => h) (Or.inl ⟨by rfl,?_⟩) hHeld ?_ ?_
    rotate_left;rintro w' ⟨s0,s1,s2,s3,s4,s5,s6,s7,s8,s9,s10,s11,s12,s13,s14,s15,s16,s17,s18,s19,s20,s21,s22,s23⟩;go_simp;with_reducible rfl;rotate_left;simp only [Act.put,sA_,sB_,sC_,i64_w,i32_w];rfl
    refine last_ (i:=10) (N:=some 107) #[t_,t_,t_,t_,t_,t_,t_,t_,t_,t_,t_,f_] rfl rfl (by kernel_rfl) (by decide) (fun K hK => ?_)
    refine goes_ Tryz.func50 (by kernel_rfl) rfl #[.agg #[.int .i64 x0,.int .i64 x1,.int .i64 x2,.int .i64 x3,.int .i64 x4,.slice F5 x5a.length f5,.slice F6 x6.length f6,.slice F7 x7.length f7,.slice F8 x8.length f8,.slice F9 x9.length f9,.slice F10 x10.length f10],.agg #[.int .i64 z0,.int .i64 z1,.int .i64 z2,.int .i64 z3,.int .i64 z4,.slice G5 z5.length g5,.slice G6 z6.length g6,.slice G7 z7.length g7,.slice G8 z8.length g8,.slice G9 z9.length g9,.slice G10 z10.length g10]] (by rfl) rfl rfl (by simp only [List.map_toArray,List.map_cons,List.map_nil]; rfl) ?_
    refine HI.out.mono ?_
    rintro e w5 ⟨rfl,hb5⟩
    have HB5 := Lib.hid (HB.out.drew.trans (hb5.mono HB.out.size))
    refine ⟨_,rfl,?_⟩
    refine hK.out _ _ ?_
    clear hK K
    refine norm_ (a':=?_) ?_ ?_
    rotate_left
    ·show Act.put _ (some 107) _ = _
     simp only [Act.put,sA_,sB_,sC_,i64_w,i32_w]
     rfl
    refine pv_ (i:=11) (N:=some 14) (v:=?_) (a':=?_) rfl rfl (by kernel_rfl) (fun _ _ _ h => h) (Or.inl ⟨by rfl,?_⟩) ?_ ?_
    rotate_left;intro w';go_simp;with_reducible rfl;rotate_left;simp only [Act.put,sA_,sB_,sC_,i64_w,i32_w];rfl
    refine done_ (by kernel_rfl) ?_
    clear hHeld
    by_cases hr0 : r = 0
    ·subst hr0
     go_wp2_with fail
     go_roundw
     case rel => exact ⟨m + 1,by omega,by go_num,by omega,Lib.hid (by rw [HE.out,HST.out]; simp),HB5⟩
     case measure => simp [intOf]; omega
    ·have hr1 : (r == 0) = false := by simpa using hr0
     go_wp2_with fail
     go_ret
     exact ⟨by rw [HE.out,HST.out,if_neg hr0]; rfl,HX5.out.trans (HB5.out.mono (by omega))⟩
   ·have i3 : (l'.length : Int) ≤ (m : Int) := by omega
    have i2 : (m : Int) < (l.length : Int) := by omega
    have HF := Lib.hid (cmpI_ok l.length l'.length wr)
    obtain ⟨r0,hr0⟩ : ∃ z,z = cmpI l.length l'.length := ⟨_,rfl⟩
    rw [← hr0] at HF
    have HR0 := Lib.hid hr0
    have HBR := Lib.hid hbr
    clear hr0 hbr
    go_wp2_with fail
    refine HF.out.mono ?_
    rintro e W9 ⟨rfl,rfl⟩
    dsimp only
    go_wp2_with fail
    go_ret
    exact ⟨by rw [HE.out,lexC_fin hm hmb (by omega),← HR0.out]; rfl,HBR.out⟩
  ·have i2 : (l.length : Int) ≤ (m : Int) := by omega
   have HF := Lib.hid (cmpI_ok l.length l'.length wr)
   obtain ⟨r0,hr0⟩ : ∃ z,z = cmpI l.length l'.length := ⟨_,rfl⟩
   rw [← hr0] at HF
   have HR0 := Lib.hid hr0
   have HBR := Lib.hid hbr
   clear hr0 hbr
   go_wp2_with fail
   refine HF.out.mono ?_
   rintro e W9 ⟨rfl,rfl⟩
   dsimp only
   go_wp2_with fail
   go_ret
   exact ⟨by rw [HE.out,lexC_fin hm hmb (by omega),← HR0.out]; rfl,HBR.out⟩
theorem rsame_ok (x y : Be) (w : World) (u v : Value) (hx : BR x) (hy : BR y) (hu : Bv w x u) (hv : Bv w y v) :
  Calls Tryz.prog 20 #[u,v] w fun e w' => e = .returned (.bool (cmpB x y == 0)) ∧ Below w.heap.size w w' := by
 have hb : ∀ o o',Below w.heap.size w ((w.alloc o).alloc o') := fun o o' => ((Below.refl _ w).alloc (Nat.le_refl _) _).alloc (by simp) _
 have HC := Lib.hid (fun o o' => rcmpB_ok x y _ _ _ hx hy (BV.below hu (hb o o')) (BV.below hv (hb o o')))
 have HB := Lib.hid hb
 obtain ⟨vg,vo,vc,vs,vt,vl,rfl,h1,h2,h3,h4,h5,h6⟩ := hu
 obtain ⟨wg,wo,wc,ws,wt,wl,rfl,g1,g2,g3,g4,g5,g6⟩ := hv
 obtain ⟨A0,c0,rfl,_,_⟩ := VAt.slice h1
 obtain ⟨A1,c1,rfl,_,_⟩ := VAt.slice h2
 obtain ⟨A2,c2,rfl,_,_⟩ := VAt.slice h3
 obtain ⟨A3,c3,rfl,_,_⟩ := VAt.slice h4
 obtain ⟨A4,c4,rfl,_,_⟩ := VAt.slice h5
 obtain ⟨A5,c5,rfl,_,_⟩ := VAt.slice h6
 obtain ⟨B0,d0,rfl,_,_⟩ := VAt.slice g1
 obtain ⟨B1,d1,rfl,_,_⟩ := VAt.slice g2
 obtain ⟨B2,d2,rfl,_,_⟩ := VAt.slice g3
 obtain ⟨B3,d3,rfl,_,_⟩ := VAt.slice g4
 obtain ⟨B4,d4,rfl,_,_⟩ := VAt.slice g5
 obtain ⟨B5,d5,rfl,_,_⟩ := VAt.slice g6
 obtain ⟨kind,n,gate,lo,hi,gates,offers,conds,sorts,t,l⟩ := x
 obtain ⟨kind',n',gate',lo',hi',gates',offers',conds',sorts',t',l'⟩ := y
 dsimp only [Be.kind,Be.n,Be.gate,Be.lo,Be.hi,Be.gates,Be.offers,Be.conds,Be.sorts,Be.t,Be.l] at HC ⊢
 clear hx hy hb h1 h2 h3 h4 h5 h6 g1 g2 g3 g4 g5 g6
 obtain ⟨r,hr⟩ : ∃ z,z = cmpB (.mk kind n gate lo hi gates offers conds sorts t l) (.mk kind' n' gate' lo' hi' gates' offers' conds' sorts' t' l') := ⟨_,rfl⟩
 rw [← hr] at HC ⊢
 clear hr
 go_enter Tryz.func20,Tryz.ntmps20
 go_wp2_with fail
 refine (HC.out _ _).mono ?_
 rintro e w5 ⟨rfl,hb5⟩
 have HB5 := Lib.hid hb5
 clear hb5
 dsimp only
 go_wp2_with fail
 go_ret
 exact ⟨rfl,(HB.out _ _).trans (HB5.out.mono (by simp; omega))⟩
theorem rcmpL_ok (g h : Int) (x y : List Tm) (w : World) (u v : Value) (hu : Ts w x u) (hv : Ts w y v) :
  Calls Tryz.prog 51 #[.agg #[.int .i64 g,u],.agg #[.int .i64 h,v]] w fun e w' => e = .returned (.int .i64 (cmpL ⟨g,x⟩ ⟨h,y⟩)) ∧ Below w.heap.size w w' := by
 obtain ⟨A,c,rfl,_,_⟩ := VAt.slice hu
 obtain ⟨B,d,rfl,_,_⟩ := VAt.slice hv
 obtain ⟨res,hres⟩ : ∃ z,z = cmpL ⟨g,x⟩ ⟨h,y⟩ := ⟨_,rfl⟩
 rw [← hres]
 have HRES : Hid (res = orI [cmpI g h,lexC cmpT x y]) := Lib.hid hres
 obtain ⟨r1,hr1⟩ : ∃ z,z = cmpI g h := ⟨_,rfl⟩
 obtain ⟨r2,hr2⟩ : ∃ z,z = lexC cmpT x y := ⟨_,rfl⟩
 rw [← hr1,← hr2] at HRES
 have hb : Below w.heap.size w ((w.alloc (.cells #[.int .i64 g,.slice A x.length c] 54)).alloc (.cells #[.int .i64 h,.slice B y.length d] 54)) := ((Below.refl _ w).alloc (Nat.le_refl _) _).alloc (by simp) _
 have HC1 := Lib.hid (fun W => cmpI_ok g h W)
 have HC2 := Lib.hid (r132_ok x y _ _ _ (Vt.below hu hb) (Vt.below hv hb))
 rw [← hr1] at HC1
 rw [← hr2] at HC2
 have HB := Lib.hid hb
 clear hu hv hb hr1 hr2 hres
 go_enter Tryz.func51,Tryz.ntmps51
 go_wp2_with fail
 refine (HC1.out _).mono ?_
 rintro e w5 ⟨rfl,rfl⟩
 dsimp only
 by_cases h0 : r1 = 0
 ·subst h0
  go_wp2_with fail
  refine HC2.out.mono ?_
  rintro e w6 ⟨rfl,hb6⟩
  have HB6 := Lib.hid hb6
  clear hb6
  dsimp only
  go_wp2_with fail
  go_ret
  exact ⟨by rw [HRES.out]; simp [orI],HB.out.trans (HB6.out.mono (by simp; omega))⟩
 ·have h0' : (r1 == 0) = false := by simpa using h0
  go_wp2_with fail
  go_ret
  exact ⟨by rw [HRES.out]; simp [orI,h0],HB.out⟩
theorem rsameL_ok (g h : Int) (x y : List Tm) (w : World) (u v : Value) (hu : Ts w x u) (hv : Ts w y v) :
  Calls Tryz.prog 34 #[.agg #[.int .i64 g,u],.agg #[.int .i64 h,v]] w fun e w' => e = .returned (.bool (cmpL ⟨g,x⟩ ⟨h,y⟩ == 0)) ∧ Below w.heap.size w w' := by
 obtain ⟨A,c,rfl,_,_⟩ := VAt.slice hu
 obtain ⟨B,d,rfl,_,_⟩ := VAt.slice hv
 have hb : ∀ o o',Below w.heap.size w ((w.alloc o).alloc o') := fun o o' => ((Below.refl _ w).alloc (Nat.le_refl _) _).alloc (by simp) _
 have HC := Lib.hid (fun o o' => rcmpL_ok g h x y ((w.alloc o).alloc o') _ _ (hu.below (hb o o')) (hv.below (hb o o')))
 have HB := Lib.hid hb
 clear hu hv hb
 obtain ⟨r,hr⟩ : ∃ z,z = cmpL ⟨g,x⟩ ⟨h,y⟩ := ⟨_,rfl⟩
 rw [← hr] at HC ⊢
 clear hr
 go_enter Tryz.func34,Tryz.ntmps34
 go_wp2_with fail
 refine (HC.out _ _).mono ?_
 rintro e w5 ⟨rfl,hb5⟩
 have HB5 := Lib.hid hb5
 clear hb5
 dsimp only
 go_wp2_with fail
 go_ret
 exact ⟨rfl,(HB.out _ _).trans (HB5.out.mono (by simp; omega))⟩
end Go.Proofs.YtjojbhkgdkcaoaaGreat
namespace Go.Proofs.YtjojbhkgdkcaoaaGreat
open Go Go.RowKit Go.Bh Go.Shelf Go.Proofs.YtjojbhkgdkcaoaaGreatW.PrintLast
theorem VAt.grown {lb : Nat} {w w' : World} {x : VT} {v : Value} (h : VAt (· ≠ lb) w x v) (hg : w.grownBy w' (some lb)) : VAt (· ≠ lb) w' x v :=
 VAt.keep (fun b o u hb hc => ⟨hb,hg.cell hc (by simpa using hb)⟩) (fun _ h => h) _ _ h
structure AnyB (e : Ending) : Prop where
 is : ∃ r,e = .returned (.bool r)
structure Box (w : World) (b : Nat) (c : Int) : Prop where
 cell : w.cell? ⟨b,0,none⟩ = some (.int .i64 c)
 frozen : w.frozen? ⟨b,0,none⟩ = false
 rng : InR c
theorem nodes_step (l : List Tm) (ih : ∀ x ∈ l,∀ (w : World) (u : Value) (lb : Nat) (c d : Int),TsP (· ≠ lb) w x.l u → Box w lb c → InR d →
   Calls Tryz.prog 17 #[u,.pointer (some ⟨lb,0,none⟩),.int .i64 d] w fun e w' => AnyB e ∧ (∃ y,Box w' lb y) ∧ w.grownBy w' (some lb))
  (w : World) (u : Value) (lb : Nat) (c d : Int) (h : TsP (· ≠ lb) w l u) (hb : Box w lb c) (hd : InR d) :
  Calls Tryz.prog 17 #[u,.pointer (some ⟨lb,0,none⟩),.int .i64 d] w fun e w' => AnyB e ∧ (∃ y,Box w' lb y) ∧ w.grownBy w' (some lb) := by
 obtain ⟨A,cap,rfl,q1,q2⟩ := h.slice
 unfold maxLen at q2
 have hlb := World.block_lt_of_cell? w _ hb.cell
 have H := Lib.hid h
 have IH := Lib.hid ih
 have HBx := Lib.hid hb
 have HD := Lib.hid hd
 clear h ih hb hd
 go_enter Tryz.func17,Tryz.ntmps17
 go_wp2_with fail
 go_loopw [11] (fun i wr => ∃ n : Nat,n ≤ l.length ∧ i = .int .i64 n ∧ Hid (∃ y,Box wr lb y) ∧ Hid (w.grownBy wr (some lb))) (fun i _ => l.length - (intOf i).toNat)
 case atStart => exact ⟨0,Nat.zero_le _,rfl,Lib.hid ⟨_,HBx.out⟩,Lib.hid (World.grownBy.refl _ _)⟩
 case round =>
  obtain ⟨n,hn,rfl,HY,HB⟩ := hrel
  obtain ⟨y,hy⟩ := HY.out
  have hlr : lb < wr.heap.size := World.block_lt_of_cell? wr _ hy.cell
  by_cases hlt : n < l.length
  ·obtain ⟨⟨tk,tn,tl⟩,hx⟩ : ∃ c,l[n]? = some c := ⟨_,List.getElem?_eq_getElem hlt⟩
   obtain ⟨b,o,A',cap',rfl,hp,c0,c1,c2,hl,_⟩ := H.out.get hx
   have e0 := HB.out.cell c0 (by simpa using hp)
   have e1 := HB.out.cell c1 (by simpa using hp)
   have e2 := HB.out.cell c2 (by simpa using hp)
   have hbr : b < wr.heap.size := World.block_lt_of_cell? wr _ e0
   have hne : ¬ b = lb := hp
   have HL := Lib.hid hl
   have hyc := hy.cell
   have hyf := hy.frozen
   have i1 : (0 : Int) ≤ (n : Int) := by omega
   have i2 : (n : Int) < (l.length : Int) := by omega
   have HK := Lib.hid (IH.out _ (List.mem_of_getElem? hx))
   obtain ⟨W2,hW2⟩ : ∃ yy,yy = ((wr.setCell ⟨lb,0,none⟩ (.int .i64 (wrap64 (y - 1)))).alloc (.cells #[.int .i64 tk,.int .i64 tn,.slice A' tl.length cap'] 62)) := ⟨_,rfl⟩
   have hB2 : w.grownBy W2 (some lb) := by rw [hW2]; exact (HB.out.trans (grown_set wr lb 0 _)).trans (World.grownBy_alloc _ _ _)
   have hx2 : Box W2 lb (wrap64 (y - 1)) := ⟨by rw [hW2]; go_simp,by rw [hW2]; go_simp,inR_wrap64 _⟩
   have HB2 := Lib.hid hB2
   have HX2 := Lib.hid hx2
   have HW2 := Lib.hid hW2
   clear hx c0 c1 c2 hl hy hB2 hx2 hW2
   by_cases hz0 : wrap64 (y - 1) < 0
   ·go_wp2_with fail
    go_ret
    rw [← HW2.out]
    exact ⟨⟨_,rfl⟩,⟨_,HX2.out⟩,HB2.out⟩
   ·by_cases hd0 : (250 : Int) < d
    ·go_wp2_with fail
     go_ret
     rw [← HW2.out]
     exact ⟨⟨_,rfl⟩,⟨_,HX2.out⟩,HB2.out⟩
    ·go_wp2_with fail
     rw [← HW2.out]
     refine (HK.out W2 _ lb _ _ (VAt.grown HL.out HB2.out) HX2.out (inR_wrap64 _)).mono ?_
     rintro e W3 ⟨⟨r,rfl⟩,⟨y3,hx3⟩,hb3⟩
     have HX3 := Lib.hid hx3
     have HB3 := Lib.hid (HB2.out.trans hb3)
     clear hx3 hb3
     cases r
     ·go_wp2_with fail
      go_ret
      exact ⟨⟨_,rfl⟩,⟨_,HX3.out⟩,HB3.out⟩
     ·go_wp2_with fail
      go_roundw
      case rel => exact ⟨n + 1,by omega,by go_num,Lib.hid ⟨_,HX3.out⟩,HB3⟩
      case measure => simp [intOf]; omega
  ·have i2 : (l.length : Int) ≤ (n : Int) := by omega
   go_wp2_with fail
   go_ret
   exact ⟨⟨_,rfl⟩,⟨_,hy⟩,HB.out⟩
theorem nodes_any (l : List Tm) (w : World) (u : Value) (lb : Nat) (c d : Int) (h : TsP (· ≠ lb) w l u) (hb : Box w lb c) (hd : InR d) :
  Calls Tryz.prog 17 #[u,.pointer (some ⟨lb,0,none⟩),.int .i64 d] w fun e w' => AnyB e ∧ (∃ y,Box w' lb y) ∧ w.grownBy w' (some lb) := by
 have key : ∀ (t : Tm) (w : World) (u : Value) (lb : Nat) (c d : Int),TsP (· ≠ lb) w t.l u → Box w lb c → InR d →
   Calls Tryz.prog 17 #[u,.pointer (some ⟨lb,0,none⟩),.int .i64 d] w fun e w' => AnyB e ∧ (∃ y,Box w' lb y) ∧ w.grownBy w' (some lb) := by
  refine Tm.ind fun k n l ih => ?_
  intro w u lb c d h hb hd
  exact nodes_step l (fun x hx => ih x hx) w u lb c d h hb hd
 exact nodes_step l (fun x _ => key x) w u lb c d h hb hd
end Go.Proofs.YtjojbhkgdkcaoaaGreat
namespace Go.Bh
open Go Go.RowKit
section
variable {P : Program} {ops : Array Oper} {Q' : Exit → Act → World → Prop} {w : World} {base : Nat} {Q : Nat → Prop} {E sz : Nat} {v : Value} {n : Nat} {cs : List VT}
theorem RO.append_arm {oi : Oper} {N : Option Tmp} {a : Act} {K : Act → World → Prop} (hw : Region.wanted oi (yielded ops a.tmps) = true) (hN : oi.dst = N) (s x : Operand) (T : TypeId)
  (hop : oi.op = .call { callee := .builtin .append,args := #[s,x],argTypes := #[T,T] }) (hs : a.eval s = v) {ad : Addr} {m c : Nat} (hx : a.eval x = .slice (some ad) m c)
  (h : RO base Q E sz w v n cs) (hbase : base ≤ w.heap.size) {z : Value} {bytes : Nat} (hT : P.underlying T = some (.slice E)) (hinfo : (P.info? E).map (fun i => (i.zero,i.size,i.bytes)) = some (some z,sz,bytes))
  (hzs : z.cells.size = sz) (hsz : 0 < sz) (news : List Value) (ncs : List VT) (hl : news.length = m * sz) (hnews : ∀ j u,news[j]? = some u → w.cell? (ad.add j) = some u)
  (hn : Cs (fun b => (Q b ∧ some b ≠ RO.row v) ∧ b < w.heap.size) w ncs news) (hm : 0 < m) (h63 : n + m ≤ maxLen) (hbytes : (n + m) * bytes ≤ 140737488355328)
  (hk : ∀ g cap w',RO base Q E sz w' (.slice (some ⟨g,0,none⟩) (n + m) cap) (n + m) (cs ++ ncs) → w.grownBy w' (RO.row v) → (RO.row v = some g ∨ w.heap.size ≤ g) → K (a.put N (.slice (some ⟨g,0,none⟩) (n + m) cap)) w') :
  if Region.wanted oi (yielded ops a.tmps) = true then Oper.wp P oi a w K Q' else K (a.put N undef) w := by
 rw [if_pos hw]
 subst hN
 obtain ⟨i,hi,hz,hsize,hby⟩ := info_parts hinfo
 obtain ⟨g,cap,w',hr,h1,h2,h3⟩ := h.append_run (P := P) hbase T oi.type i z bytes hT hi hz hsize hby hzs hsz ad m c news ncs hl hnews hn hm h63 hbytes
 unfold Oper.wp execOp
 simp only [hop,resolve,invoke,builtin,Sem.run_bind,Sem.run_pure,Result.andThen_ok,List.map_toArray,List.map_cons,List.map_nil,hs,hx,hr]
 exact hk g cap w' h1 h2 h3
end
end Go.Bh
namespace Go.Proofs.YtjojbhkgdkcaoaaGreat
open Go Go.RowKit Go.Bh Go.Shelf Go.Proofs.YtjojbhkgdkcaoaaGreatW.PrintLast
theorem cs_mk3 {P : Nat → Prop} {n0 : Nat} {W : World} {v : Value} {k n : Int} {l : List Tm} {u : Value} (hP : ∀ b,P b → b < n0) (hv : ∀ b,RO.row v = some b → n0 ≤ b) (hW : n0 ≤ W.heap.size) (hk : InR k) (hn : InR n) (h : TsP P W l u) :
  Cs (fun b => (P b ∧ some b ≠ RO.row v) ∧ b < W.heap.size) W [.int k,.int n,.row l.length (encTs l)] [.int .i64 k,.int .i64 n,u] := by
 have h' : VAt (fun b => (P b ∧ some b ≠ RO.row v) ∧ b < W.heap.size) W (.row l.length (encTs l)) u :=
  VAt.keep (fun b o u hb hc => ⟨⟨⟨hb,fun e => by have := hv b e.symm; have := hP b hb; omega⟩,by have := hP b hb; omega⟩,hc⟩) (fun b hb => ⟨⟨hb,fun e => by have := hv b e.symm; have := hP b hb; omega⟩,by have := hP b hb; omega⟩) _ _ h
 refine ⟨rfl,fun j x y hx hy => ?_⟩
 match j with
 | 0 => simp at hx hy; subst hx; subst hy; exact ⟨rfl,hk⟩
 | 1 => simp at hx hy; subst hx; subst hy; exact ⟨rfl,hn⟩
 | 2 => simp at hx hy; subst hx; subst hy; exact h'
 | j + 3 => simp at hx
theorem encTs_append (a b : List Tm) : encTs (a ++ b) = encTs a ++ encTs b := by rw [encTs_eq,encTs_eq,encTs_eq,List.flatMap_append]
def prT (l : List Pr) : List Tm := l.flatMap fun p => [p.a,p.b]
theorem prT_append (a b : List Pr) : prT (a ++ b) = prT a ++ prT b := by unfold prT; rw [List.flatMap_append]
theorem prT_len (l : List Pr) : (prT l).length = l.length * 2 := by
 unfold prT
 induction l with
 | nil => rfl
 | cons x l ih => rw [List.flatMap_cons,List.length_append,ih,List.length_cons]; simp; omega
theorem terms127_ok (b : Be) (w : World) (v : Value) (P : Nat → Prop) (hP : ∀ b,P b → b < w.heap.size) (hv : BV P w b v) (h1 : b.offers.length ≤ 100000000) (h2 : b.conds.length ≤ 100000000) :
  Calls Tryz.prog 127 #[v] w fun e w' => (∃ x y z,e = .returned (.tuple #[x,y,z]) ∧ TsP (fun b => P b ∨ w.heap.size ≤ b) w' (b.offers.map (·.t)) x ∧ TsP (fun b => P b ∨ w.heap.size ≤ b) w' (prT b.conds) y ∧ TsP (fun b => P b ∨ w.heap.size ≤ b) w' b.t z) ∧ Below w.heap.size w w' := by
 obtain ⟨kind,n,gate,lo,hi,gates,offers,conds,sorts,t,l⟩ := b
 obtain ⟨vg,vo,vc,vs,vt,vl,rfl,g0,g1,g2,g3,g4,g5⟩ := hv
 obtain ⟨A0,c0,rfl,_,_⟩ := VAt.slice g0
 obtain ⟨A1,c1,rfl,_,q1⟩ := VAt.slice g1
 obtain ⟨A2,c2,rfl,_,q2⟩ := VAt.slice g2
 obtain ⟨A3,c3,rfl,_,_⟩ := VAt.slice g3
 obtain ⟨A4,c4,rfl,_,_⟩ := VAt.slice g4
 obtain ⟨A5,c5,rfl,_,_⟩ := VAt.slice g5
 dsimp only [Be.kind,Be.n,Be.gate,Be.lo,Be.hi,Be.gates,Be.offers,Be.conds,Be.sorts,Be.t,Be.l] at *
 obtain ⟨W1,hW1⟩ : ∃ y,y = w.alloc (.cells #[.int .i64 kind,.int .i64 n,.int .i64 gate,.int .i64 lo,.int .i64 hi,.slice A0 gates.length c0,.slice A1 offers.length c1,.slice A2 conds.length c2,.slice A3 sorts.length c3,.slice A4 t.length c4,.slice A5 l.length c5] 28) := ⟨_,rfl⟩
 have hz1 : W1.heap.size = w.heap.size + 1 := by rw [hW1]; simp
 have hb1 : Below w.heap.size w W1 := by rw [hW1]; exact (Below.refl _ w).alloc (Nat.le_refl _) _
 have k1 : W1.heap[w.heap.size]? = some (.cells #[.int .i64 kind,.int .i64 n,.int .i64 gate,.int .i64 lo,.int .i64 hi,.slice A0 gates.length c0,.slice A1 offers.length c1,.slice A2 conds.length c2,.slice A3 sorts.length c3,.slice A4 t.length c4,.slice A5 l.length c5] 28) := by rw [hW1]; exact World.alloc_heap_new w _
 have HO := Lib.hid g1
 have HC := Lib.hid g2
 have HT := Lib.hid g4
 have HB1 := Lib.hid hb1
 have K1 := Lib.hid k1
 have L1 := Lib.hid h1
 have L2 := Lib.hid h2
 have HP := Lib.hid hP
 clear g0 g1 g2 g3 g4 g5 hb1 k1 h1 h2 hP
 go_enter Tryz.func127,Tryz.ntmps127
 go_upto_region 3 with fail
 rw [← hW1]
 clear hW1
 go_loopw [6,5] (fun i s wr => ∃ m : Nat,m ≤ offers.length ∧ i = .int .i64 m ∧ ∃ (A6 : Option Addr) (c6 : Nat),s = .slice A6 m c6 ∧ Hid (RO (w.heap.size + 1) P 62 3 wr (.slice A6 m c6) m (encTs ((offers.take m).map (·.t)))) ∧ Hid (Below (w.heap.size + 1) W1 wr)) (fun i _ _ => offers.length - (intOf i).toNat)
 case atStart => exact ⟨0,Nat.zero_le _,rfl,none,0,rfl,Lib.hid (RO.nil _ _ _ _ _),Lib.hid (Below.refl _ _)⟩
 case round =>
  obtain ⟨m,hm,rfl,A6,c6,rfl,HR,HB⟩ := hrel
  have hzr := HB.out.size
  have k0 := (HB.out.block w.heap.size (by omega)).trans K1.out
  have f6 := cell_at k0 6 rfl
  clear k0
  by_cases hlt : m < offers.length
  ·obtain ⟨⟨oi,os,⟨tk,tn,tl⟩⟩,hx⟩ : ∃ c,offers[m]? = some c := ⟨_,List.getElem?_eq_getElem hlt⟩
   obtain ⟨b,o,A',cap',rfl,hp,e0,e1,e2,e3,e4,r1,r2,r3,hl⟩ := OsP.get HO.out hx
   have hbw : Below w.heap.size w wr := HB1.out.trans (HB.out.mono (by omega))
   have e2 := (hbw.cell (p := ⟨b,_,none⟩) (HP.out b hp)).trans e2
   have e3 := (hbw.cell (p := ⟨b,_,none⟩) (HP.out b hp)).trans e3
   have e4 := (hbw.cell (p := ⟨b,_,none⟩) (HP.out b hp)).trans e4
   have i1 : (0 : Int) ≤ (m : Int) := by omega
   have i2 : (m : Int) < (offers.length : Int) := by omega
   have HCS := Lib.hid (cs_mk3 (W := wr.alloc (.cells #[.int .i64 tk,.int .i64 tn,.slice A' tl.length cap'] 62)) (v:=.slice A6 m c6) HP.out (fun b hb => by have := (RO.row_lt HR.out hb).1; omega) (by simp; omega) r2 r3 (VAt.up HP.out (hbw.alloc (by omega) _) hl))
   have HX := Lib.hid hx
   have hll := L1.out
   clear hx e0 e1 hl
   go_wp2_with (at_builtin; refine RO.append_list (base := w.heap.size + 1) (Q := P) rfl (.tmp 16) (.tmp 23) 25 rfl (by rfl) (by rfl) (HR.out.alloc _) (by simp; omega) Tryz.underlying25 info62 rfl (by decide) [.int .i64 tk,.int .i64 tn,.slice A' tl.length cap'] [.int tk,.int tn,.row tl.length (encTs tl)] rfl (news_at _ _ _) HCS.out (by decide) (by unfold maxLen; omega) (by omega) ?_; intro g cap2 w1 hro hgr hge)
   go_roundw
   case rel =>
    refine ⟨m + 1,by omega,by go_num,_,_,rfl,Lib.hid ?_,Lib.hid ?_⟩
    ·rw [take_snoc HX.out,List.map_append,encTs_append]; simpa [encTs,encT] using hro
    ·exact HB.out.trans (((Below.refl (w.heap.size + 1) wr).alloc (by omega) _).trans (grown_below' hgr (by simp; omega) (fun b hb => (RO.row_lt HR.out hb).1)))
   case measure => simp [intOf]; omega
  ·obtain rfl : m = offers.length := by omega
   have i2 : (offers.length : Int) ≤ (offers.length : Int) := by omega
   rw [List.take_length] at HR
   obtain ⟨W3,rfl⟩ : ∃ y,y = wr := ⟨_,rfl⟩
   go_upto_region 8 with fail
   go_loopw [8,7] (fun i s wr => ∃ m : Nat,m ≤ conds.length ∧ i = .int .i64 m ∧ ∃ (A7 : Option Addr) (c7 : Nat),s = .slice A7 (m * 2) c7 ∧ Hid (RO W3.heap.size P 62 3 wr (.slice A7 (m * 2) c7) (m * 2) (encTs (prT (conds.take m)))) ∧ Hid (Below W3.heap.size W3 wr)) (fun i _ _ => conds.length - (intOf i).toNat)
   case atStart => exact ⟨0,Nat.zero_le _,rfl,none,0,rfl,Lib.hid (RO.nil _ _ _ _ _),Lib.hid (Below.refl _ _)⟩
   case round =>
    obtain ⟨m,hm,rfl,A7,c7,rfl,HR7,HB7⟩ := hrel
    have hz7 := HB7.out.size
    have hbw : Below w.heap.size w wr := (HB1.out.trans (HB.out.mono (by omega))).trans (HB7.out.mono (by omega))
    have k0 : wr.heap[w.heap.size]? = _ := (HB7.out.block w.heap.size (by omega)).trans ((HB.out.block w.heap.size (by omega)).trans K1.out)
    have f7 := cell_at k0 7 rfl
    have f9 := cell_at k0 9 rfl
    clear k0
    by_cases hlt : m < conds.length
    ·obtain ⟨⟨⟨tk,tn,tl⟩,⟨uk,un,ul⟩⟩,hx⟩ : ∃ c,conds[m]? = some c := ⟨_,List.getElem?_eq_getElem hlt⟩
     obtain ⟨b,o,B2,d2,B5,d5,rfl,hp,e0,e1,e2,e3,e4,e5,r0,r1,hl2,r3,r4,hl5⟩ := PsP.get HC.out hx
     have e0 := (hbw.cell (p := ⟨b,_,none⟩) (HP.out b hp)).trans e0
     have e1 := (hbw.cell (p := ⟨b,_,none⟩) (HP.out b hp)).trans e1
     have e2 := (hbw.cell (p := ⟨b,_,none⟩) (HP.out b hp)).trans e2
     have e3 := (hbw.cell (p := ⟨b,_,none⟩) (HP.out b hp)).trans e3
     have e4 := (hbw.cell (p := ⟨b,_,none⟩) (HP.out b hp)).trans e4
     have e5 := (hbw.cell (p := ⟨b,_,none⟩) (HP.out b hp)).trans e5
     have i1 : (0 : Int) ≤ (m : Int) := by omega
     have i2 : (m : Int) < (conds.length : Int) := by omega
     obtain ⟨W9,hW9⟩ : ∃ y,y = (wr.alloc (.cells #[.int .i64 tk,.int .i64 tn,.slice B2 tl.length d2,.int .i64 uk,.int .i64 un,.slice B5 ul.length d5] 62)).drew := ⟨_,rfl⟩
     have hz9 : W9.heap.size = wr.heap.size + 1 := by rw [hW9]; simp
     have hb9 : Below (wr.heap.size) wr W9 := by rw [hW9]; exact ((Below.refl _ wr).alloc (Nat.le_refl _) _).drew
     have HCS : Hid (Cs (fun b => (P b ∧ some b ≠ RO.row (.slice A7 (m * 2) c7)) ∧ b < W9.heap.size) W9 ([.int tk,.int tn,.row tl.length (encTs tl)] ++ [.int uk,.int un,.row ul.length (encTs ul)]) ([.int .i64 tk,.int .i64 tn,.slice B2 tl.length d2] ++ [.int .i64 uk,.int .i64 un,.slice B5 ul.length d5])) :=
      Lib.hid (Cs.append (cs_mk3 HP.out (fun b hb => by have := (RO.row_lt HR7.out hb).1; omega) (by omega) r0 r1 (VAt.up HP.out (hbw.trans (hb9.mono (by omega))) hl2)) (cs_mk3 HP.out (fun b hb => by have := (RO.row_lt HR7.out hb).1; omega) (by omega) r3 r4 (VAt.up HP.out (hbw.trans (hb9.mono (by omega))) hl5)))
     have HR9 := Lib.hid (HR7.out.below hb9)
     have HX := Lib.hid hx
     have hll := L2.out
     have HB9 := Lib.hid hb9
     clear hx hl2 hl5 hb9
     have K2 := Lib.hid (HCS.out)
     go_wp2_with fail
     refine start_ (n:=16) (S:=fun w' => w'.cell? ⟨w.heap.size,7,none⟩ = some (.slice (some ⟨b,o,none⟩) conds.length c2) ∧ w'.cell? ⟨b,o + m * 6,none⟩ = some (.int .i64 tk) ∧ w'.cell? ⟨b,o + m * 6 + 1,none⟩ = some (.int .i64 tn) ∧ w'.cell? ⟨b,o + m * 6 + 2,none⟩ = some (.slice B2 tl.length d2) ∧ w'.cell? ⟨b,o + m * 6 + 3,none⟩ = some (.int .i64 uk) ∧ w'.cell? ⟨b,o + m * 6 + 4,none⟩ = some (.int .i64 un) ∧ w'.cell? ⟨b,o + m * 6 + 5,none⟩ = some (.slice B5 ul.length d5)) (ds := [13,14]) #[f_,f_,f_,f_,f_,f_,f_,f_,f_,f_,f_,f_,f_,f_,f_,f_] (by kernel_rfl) rfl rfl ⟨f7,e0,e1,e2,e3,e4,e5⟩ (fun hHeld => ?_)
     refine pv_ (i:=0) (N:=some 32) (v:=?_) (a':=?_) rfl rfl (by kernel_rfl) (fun _ _ _ h => h) (Or.inl ⟨by rfl,?_⟩) ?_ ?_
     rotate_left;intro w';go_simp;with_reducible rfl;rotate_left;simp only [Act.put,sA_,sB_,sC_,i64_w,i32_w];rfl
     refine pv_ (i:=1) (N:=some 33) (v:=?_) (a':=?_) rfl rfl (by kernel_rfl) (fun _ _ _ h => h) (Or.inl ⟨by rfl,?_⟩) ?_ ?_
     rotate_left;intro w';go_simp;with_reducible rfl;rotate_left;simp only [Act.put,sA_,sB_,sC_,i64_w,i32_w];rfl
     refine pv_ (i:=3) (N:=some 35) (v:=?_) (a':=?_) rfl rfl (by kernel_rfl) (fun _ _ _ h => h) (Or.inl ⟨by rfl,?_⟩) ?_ ?_
     rotate_left;intro w';go_simp;with_reducible rfl;rotate_left;simp only [Act.put,sA_,sB_,sC_,i64_w,i32_w];rfl
     refine pv_ (i:=7) (N:=some 39) (v:=?_) (a':=?_) rfl rfl (by kernel_rfl) (fun _ _ _ h => h) (Or.inl ⟨by rfl,?_⟩) ?_ ?_
     rotate_left;intro w';go_simp;with_reducible rfl;rotate_left;simp only [Act.put,sA_,sB_,sC_,i64_w,i32_w];rfl
     refine pv_ (i:=9) (N:=some 41) (v:=?_) (a':=?_) rfl rfl (by kernel_rfl) (fun _ _ _ h => h) (Or.inl ⟨by rfl,?_⟩) ?_ ?_
     rotate_left;intro w';go_simp;with_reducible rfl;rotate_left;simp only [Act.put,sA_,sB_,sC_,i64_w,i32_w];rfl
     refine tv_ (i:=2) (N:=some 34) (v:=?_) (a':=?_) rfl rfl (by kernel_rfl) (fun _ _ _ h => h) (Or.inl ⟨by rfl,?_⟩) hHeld ?_ ?_
     rotate_left;rintro w' ⟨s0,s1,s2,s3,s4,s5,s6⟩;go_simp;with_reducible rfl;rotate_left;simp only [Act.put,sA_,sB_,sC_,i64_w,i32_w];rfl
     refine pv_ (i:=4) (N:=some 36) (v:=?_) (a':=?_) rfl rfl (by kernel_rfl) (fun _ _ _ h => h) (Or.inl ⟨by rfl,?_⟩) ?_ ?_
     rotate_left;intro w';go_simp;with_reducible rfl;rotate_left;simp only [Act.put,sA_,sB_,sC_,i64_w,i32_w];rfl
     refine pv_ (i:=5) (N:=some 37) (v:=?_) (a':=?_) rfl rfl (by kernel_rfl) (fun _ _ _ h => h) (Or.inl ⟨by rfl,?_⟩) ?_ ?_
     rotate_left;intro w';go_simp;with_reducible rfl;rotate_left;simp only [Act.put,sA_,sB_,sC_,i64_w,i32_w];rfl
     refine tv_ (i:=6) (N:=some 38) (v:=?_) (a':=?_) rfl rfl (by kernel_rfl) (fun _ _ _ h => h) (Or.inl ⟨by rfl,?_⟩) hHeld ?_ ?_
     rotate_left;rintro w' ⟨s0,s1,s2,s3,s4,s5,s6⟩;go_simp;with_reducible rfl;rotate_left;simp only [Act.put,sA_,sB_,sC_,i64_w,i32_w];rfl
     refine tv_ (i:=8) (N:=some 40) (v:=?_) (a':=?_) rfl rfl (by kernel_rfl) (fun _ _ _ h => h) (Or.inl ⟨by rfl,?_⟩) hHeld ?_ ?_
     rotate_left;rintro w' ⟨s0,s1,s2,s3,s4,s5,s6⟩;go_simp;with_reducible rfl;rotate_left;simp only [Act.put,sA_,sB_,sC_,i64_w,i32_w];rfl
     refine pv_ (i:=10) (N:=some 42) (v:=?_) (a':=?_) rfl rfl (by kernel_rfl) (fun _ _ _ h => h) (Or.inl ⟨by rfl,?_⟩) ?_ ?_
     rotate_left;intro w';go_simp;with_reducible rfl;rotate_left;simp only [Act.put,sA_,sB_,sC_,i64_w,i32_w];rfl
     refine pv_ (i:=11) (N:=some 43) (v:=?_) (a':=?_) rfl rfl (by kernel_rfl) (fun _ _ _ h => h) (Or.inl ⟨by rfl,?_⟩) ?_ ?_
     rotate_left;intro w';go_simp;with_reducible rfl;rotate_left;simp only [Act.put,sA_,sB_,sC_,i64_w,i32_w];rfl
     refine tv_ (i:=12) (N:=some 44) (v:=?_) (a':=?_) rfl rfl (by kernel_rfl) (fun _ _ _ h => h) (Or.inl ⟨by rfl,?_⟩) hHeld ?_ ?_
     rotate_left;rintro w' ⟨s0,s1,s2,s3,s4,s5,s6⟩;go_simp;with_reducible rfl;rotate_left;simp only [Act.put,sA_,sB_,sC_,i64_w,i32_w];rfl
     refine last_ (i:=13) (N:=some 45) #[t_,t_,t_,t_,t_,t_,t_,t_,t_,t_,t_,t_,t_,t_,f_,f_] rfl rfl (by kernel_rfl) (by decide) (fun K hK => ?_)
     refine value_ (w1:=?_) (v:=?_) (by rfl) rfl ?_ ?_
     rotate_left 2
     ·go_simp
      constructor
      ·rfl
      ·rfl
     refine hK.out _ _ ?_
     clear hK K
     refine norm_ (a':=?_) ?_ ?_
     rotate_left
     ·show Act.put _ (some 45) _ = _
      simp only [Act.put,sA_,sB_,sC_,i64_w,i32_w]
      rfl
     refine last_ (i:=14) (N:=some 46) #[t_,t_,t_,t_,t_,t_,t_,t_,t_,t_,t_,t_,t_,t_,t_,f_] rfl rfl (by kernel_rfl) (by decide) (fun K hK => ?_)
     rw [← hW9]
     refine RO.append_arm (base := W3.heap.size) (Q := P) (by rfl) rfl (.tmp 32) (.tmp 45) 25 rfl (by rfl) (by rfl) HR9.out (by omega) Tryz.underlying25 info62 rfl (by decide) ([.int .i64 tk,.int .i64 tn,.slice B2 tl.length d2] ++ [.int .i64 uk,.int .i64 un,.slice B5 ul.length d5]) ([.int tk,.int tn,.row tl.length (encTs tl)] ++ [.int uk,.int un,.row ul.length (encTs ul)]) rfl (by rw [hW9]; exact fun j u hu => news_at wr _ _ j u hu) HCS.out (by decide) (by unfold maxLen; omega) (by omega) ?_
     intro g cap2 w1 hro hgr hge
     refine hK.out _ _ ?_
     clear hK K
     refine norm_ (a':=?_) ?_ ?_
     rotate_left
     ·show Act.put _ (some 46) _ = _
      simp only [Act.put,sA_,sB_,sC_,i64_w,i32_w]
      rfl
     refine pv_ (i:=15) (N:=some 7) (v:=?_) (a':=?_) rfl rfl (by kernel_rfl) (fun _ _ _ h => h) (Or.inl ⟨by rfl,?_⟩) ?_ ?_
     rotate_left;intro w';go_simp;with_reducible rfl;rotate_left;simp only [Act.put,sA_,sB_,sC_,i64_w,i32_w];rfl
     refine done_ (by kernel_rfl) ?_
     clear hHeld
     go_wp2_with fail
     go_roundw
     case rel =>
      refine ⟨m + 1,by omega,by go_num,some ⟨g,0,none⟩,cap2,by rw [show (m + 1) * 2 = m * 2 + 2 by omega],Lib.hid ?_,Lib.hid ?_⟩
      ·rw [show (m + 1) * 2 = m * 2 + 2 by omega,take_snoc HX.out,prT_append,encTs_append]
       simpa [encTs,encT,prT] using hro
      ·exact HB7.out.trans ((HB9.out.mono hz7).trans (grown_below' hgr (by omega) (fun b hb => (RO.row_lt HR7.out hb).1)))
     case measure => simp [intOf]; omega
    ·obtain rfl : m = conds.length := by omega
     have i2 : (conds.length : Int) ≤ (conds.length : Int) := by omega
     rw [List.take_length] at HR7
     go_upto_region 11 with fail
     go_quiet (fail)
     go_wp2_with fail
     go_ret3
     have hd : Below wr.heap.size wr (wr.drewN nq) := below_drewN (Below.refl _ _) nq
     refine ⟨⟨_,_,_,rfl,?_,?_,?_⟩,?_⟩
     ·have := RO.vat (P := fun b => P b ∨ w.heap.size ≤ b) ((HR.out.below HB7.out).below hd) (fun _ h => .inl h) (fun _ h => .inr (by omega))
      unfold TsP
      rw [List.length_map]
      exact this
     ·have := RO.vat (P := fun b => P b ∨ w.heap.size ≤ b) (HR7.out.below hd) (fun _ h => .inl h) (fun _ h => .inr (by omega))
      unfold TsP
      rw [prT_len]
      exact this
     ·exact TsP.mono (VAt.up HP.out (hbw.trans (hd.mono (by omega))) HT.out) (fun _ h => .inl h)
     ·exact hbw.trans (hd.mono (by omega))
end Go.Proofs.YtjojbhkgdkcaoaaGreat
namespace Go.Bh
open Go.RowKit Go.Deep
mutual
def dcells {H : Type} : DataW H → List VT
 | .lit (.int _ n) => [.int n]
 | .lit (.bool b) => [.bool b]
 | .lit (.string l) => [.str ⟨l.toArray⟩]
 | .lit _ => []
 | .nil => [.row 0 []]
 | .slice elems _ => [.row elems.length (dcellsAll elems)]
 | .agg parts => dcellsAll parts
 | .ptr _ => []
 | .iface _ _ => []
 | .map _ => []
 | .held _ => []
def dcellsAll {H : Type} : List (DataW H) → List VT
 | [] => []
 | d :: l => dcells d ++ dcellsAll l
end
theorem dcellsAll_eq {H : Type} : ∀ l : List (DataW H),dcellsAll l = l.flatMap dcells
 | [] => by simp [dcellsAll]
 | d :: l => by rw [dcellsAll,dcellsAll_eq l,List.flatMap_cons]
def layB (P : Program) (S : List TypeId) : List Field → Nat → Nat → Bool
 | [],off,n => off == n
 | f :: fs,off,n => f.offset == off && (S.contains f.type && layB P S fs (off + P.cellsOf f.type) n)
def flatT (P : Program) (S : List TypeId) (t : TypeId) : Bool := match P.underlying t with
 | some (.int .i64) => P.cellsOf t == 1
 | some .bool => P.cellsOf t == 1
 | some .string => P.cellsOf t == 1
 | some (.slice e) => P.cellsOf t == 1 && S.contains e
 | some (.struct fs) => layB P S fs.toList 0 (P.cellsOf t)
 | _ => false
def flatS (P : Program) (S : List TypeId) : Bool := S.all (flatT P S)
theorem flat_cases {P : Program} {S : List TypeId} {t : TypeId} (h : flatT P S t = true) :
  (P.underlying t = some (.int .i64) ∧ P.cellsOf t = 1) ∨ (P.underlying t = some .bool ∧ P.cellsOf t = 1) ∨ (P.underlying t = some .string ∧ P.cellsOf t = 1) ∨
  (∃ e,P.underlying t = some (.slice e) ∧ P.cellsOf t = 1 ∧ e ∈ S) ∨ ∃ fs,P.underlying t = some (.struct fs) ∧ layB P S fs.toList 0 (P.cellsOf t) = true := by
 unfold flatT at h
 split at h <;> simp_all
theorem flat_split {α : Type} (enc : α → List VT) (sz : Nat) : ∀ (L : List α),(∀ x ∈ L,(enc x).length = sz) → ∀ (j : Nat) (y : VT),(L.flatMap enc)[j]? = some y → ∃ i r x,j = i * sz + r ∧ r < sz ∧ L[i]? = some x ∧ (enc x)[r]? = some y
 | [],_,j,y,h => by simp at h
 | x :: L,hl,j,y,h => by
  rw [List.flatMap_cons] at h
  have hx := hl x (by simp)
  by_cases hj : j < sz
  ·rw [List.getElem?_append_left (by omega)] at h
   exact ⟨0,j,x,by omega,hj,rfl,h⟩
  ·rw [List.getElem?_append_right (by omega),hx] at h
   obtain ⟨i,r,z,h1,h2,h3,h4⟩ := flat_split enc sz L (fun z hz => hl z (by simp [hz])) _ y h
   exact ⟨i + 1,r,z,by rw [Nat.add_mul]; omega,h2,by simpa using h3,h4⟩
theorem addr_add (b o j : Nat) : (⟨b,o,none⟩ : Addr).add j = ⟨b,o + j,none⟩ := by unfold Addr.add; split <;> simp_all
theorem sub_none {w : World} {a : Addr} {v : Value} (h : w.cell? (a.add 0) = some v) : a = ⟨a.block,a.off,none⟩ := by
 obtain ⟨b,o,s⟩ := a
 cases s with
 | none => rfl
 | some s =>
  exfalso
  simp only [Addr.add,if_true,ite_true] at h
  unfold World.cell? at h
  simp only at h
  split at h
  ·simp at h
  ·cases h
theorem Cs.one {w : World} {x : VT} {u : Value} (h : VAt (fun _ => True) w x u) : Cs (fun _ => True) w [x] [u] := by
 refine ⟨rfl,fun j y v hy hv => ?_⟩
 cases j with
 | zero => simp at hy hv; subst hy; subst hv; exact h
 | succ j => simp at hy
section
variable {H : Type} {enc : TypeId × Value → H} {P : Program} {w : World} {base : Nat} {spare : Nat → Bool} {held : Bool} {S : List TypeId}
theorem lay_cs {n : Nat} (ih : ∀ (t : TypeId) (cs : List Value) (d : DataW H) (ps : List MemPlace),t ∈ S → DataW.trod enc P w base spare held n t cs = some (d,ps) → cs.length = P.cellsOf t ∧ Cs (fun _ => True) w (dcells d) cs) {cs : List Value} {N : Nat} (hN : cs.length = N) :
  ∀ (fs : List Field) (xs : List (DataW H × List MemPlace)) (off : Nat),layB P S fs off N = true → xs.length = fs.length →
   (∀ (i : Nat) (f : Field),fs[i]? = some f → DataW.trod enc P w base spare held n f.type ((cs.drop f.offset).take (P.cellsOf f.type)) = xs[i]?) → Cs (fun _ => True) w (dcellsAll (xs.map (·.1))) (cs.drop off)
 | [],xs,off,h1,h2,_ => by
  simp only [layB,beq_iff_eq] at h1
  have : xs = [] := List.length_eq_zero_iff.1 h2
  subst this
  rw [List.drop_eq_nil_of_le (by omega)]
  simp only [List.map_nil,dcellsAll]
  exact ⟨rfl,fun j x u hx => by simp at hx⟩
 | f :: fs,[],off,_,h2,_ => by simp at h2
 | f :: fs,x :: xs,off,h1,h2,h3 => by
  simp only [layB,Bool.and_eq_true,beq_iff_eq,List.contains_iff_mem] at h1
  obtain ⟨ho,hm,h1⟩ := h1
  have h0 := h3 0 f rfl
  rw [ho] at h0
  obtain ⟨hl,hc⟩ := ih f.type _ x.1 x.2 hm (by simpa using h0)
  have hr := lay_cs ih hN fs xs (off + P.cellsOf f.type) h1 (by simpa using h2) fun i g hg => by
   have := h3 (i + 1) g (by simpa using hg)
   simpa using this
  have e : cs.drop off = (cs.drop off).take (P.cellsOf f.type) ++ cs.drop (off + P.cellsOf f.type) := by
   rw [← List.drop_drop,List.take_append_drop]
  rw [e,List.map_cons,dcellsAll]
  exact Cs.append hc hr
theorem trod_cs (hS : flatS P S = true) : ∀ (fuel : Nat) (t : TypeId) (cs : List Value) (d : DataW H) (ps : List MemPlace),t ∈ S → DataW.trod enc P w base spare held fuel t cs = some (d,ps) → cs.length = P.cellsOf t ∧ Cs (fun _ => True) w (dcells d) cs := by
 intro fuel
 induction fuel with
 | zero => intro t cs d ps _ h; simp [DataW.trod] at h
 | succ n ih =>
  intro t cs d ps ht h
  rcases flat_cases (List.all_eq_true.1 hS t ht) with ⟨hu,hk⟩ | ⟨hu,hk⟩ | ⟨hu,hk⟩ | ⟨e,hu,hk,he⟩ | ⟨fs,hu,hk⟩
  ·obtain ⟨z,rfl,hx,hwf⟩ := DataW.trod_int hu h
   injection hx with hx _
   subst hx
   have hmin : IntKind.i64.min = -9223372036854775808 := by decide
   have hw : -9223372036854775808 ≤ z ∧ z ≤ 9223372036854775807 := by simpa [Lit.wf,hmin] using hwf
   simp only [dcells]
   exact ⟨by simp [hk],Cs.one ⟨rfl,hw⟩⟩
  ·obtain ⟨z,rfl,hx⟩ := DataW.trod_bool hu h
   injection hx with hx _
   subst hx
   simp only [dcells]
   exact ⟨by simp [hk],Cs.one rfl⟩
  ·obtain ⟨z,rfl,hx,_⟩ := DataW.trod_string hu h
   injection hx with hx _
   subst hx
   simp only [dcells]
   exact ⟨by simp [hk],Cs.one rfl⟩
  ·rcases DataW.trod_slice hu h with ⟨rfl,hx⟩ | ⟨a,len,cap,elems,rest,n',hn,rfl,hx,hb,hl,hm,hlen,hel,_,_⟩
   ·injection hx with hx _
    subst hx
    simp only [dcells]
    exact ⟨by simp [hk],Cs.one ⟨none,0,rfl,Nat.zero_le _,Nat.zero_le _,.inl rfl⟩⟩
   ·injection hx with hx _
    injection hn with hn
    subst hn
    subst hx
    simp only [dcells]
    have hat : ∀ i x,elems[i]? = some x → ∃ cs',w.cells? base (a.add (i * P.cellsOf e)) (P.cellsOf e) = some cs' ∧ cs'.length = P.cellsOf e ∧ Cs (fun _ => True) w (dcells x.1) cs' := by
     intro i x hx
     have hi := (List.getElem?_eq_some_iff.1 hx).1
     have := hel i (by omega)
     rw [hx] at this
     obtain ⟨cs',h1,h2⟩ := Option.bind_eq_some_iff.1 this
     have := ih e cs' x.1 x.2 he h2
     exact ⟨cs',h1,this⟩
    refine ⟨by simp [hk],Cs.one ⟨some a,cap,by rw [List.length_map,hlen],by rw [List.length_map,hlen]; exact hl,hm,?_⟩⟩
    rw [dcellsAll_eq,List.flatMap_map]
    by_cases hnil : elems.flatMap (fun x => dcells x.1) = []
    ·exact .inl hnil
    have hcell : ∀ j x,(elems.flatMap (fun x => dcells x.1))[j]? = some x → ∃ u,w.cell? (a.add j) = some u ∧ VAt (fun _ => True) w x u := by
     intro j x hx
     obtain ⟨i,r,y,rfl,hr,hy,hz⟩ := flat_split (fun x : DataW H × List MemPlace => dcells x.1) (P.cellsOf e) elems (fun y hy => by
      obtain ⟨i,hi⟩ := List.getElem?_of_mem hy
      obtain ⟨cs',_,h2,h3⟩ := hat i y hi
      rw [← h3.1,h2]) j x hx
     obtain ⟨cs',h1,h2,h3⟩ := hat i y hy
     obtain ⟨_,_,h4⟩ := World.cells?_some h1
     have hu : cs'[r]? = some (cs'[r]'(by omega)) := List.getElem?_eq_getElem (by omega)
     refine ⟨_,?_,h3.2 r x _ hz hu⟩
     have := h4 r hr
     rw [add_add,hu] at this
     exact this
    obtain ⟨x0,hx0⟩ : ∃ x,(elems.flatMap (fun x => dcells x.1))[0]? = some x := ⟨_,List.getElem?_eq_getElem (List.length_pos_iff.2 hnil)⟩
    obtain ⟨u0,hu0,_⟩ := hcell 0 x0 hx0
    have ha := sub_none hu0
    refine .inr ⟨a.block,a.off,by rw [← ha],trivial,CAt.of _ _ fun j x hx => ?_⟩
    obtain ⟨u,h1,h2⟩ := hcell j x hx
    rw [ha] at h1
    refine ⟨u,?_,h2⟩
    rw [addr_add] at h1
    exact h1
  ·obtain ⟨xs,n',hn,hx,hlen,hxl,hf⟩ := DataW.trod_struct hu h
   injection hx with hx _
   injection hn with hn
   subst hn
   subst hx
   simp only [dcells]
   refine ⟨hlen,?_⟩
   have := lay_cs ih hlen fs.toList xs 0 hk (by simpa using hxl) (fun i f hi => hf i f (by simpa using hi))
   simpa using this
end
end Go.Bh
namespace Go.Bh
open Go Go.RowKit
theorem append_run_list {P : Program} {ops : Array Oper} {Q' : Exit → Act → World → Prop} {w w' : World} {v xv r : Value} {rest : List Oper} {oi : Oper} {a : Act} (hg : oi.guard = none) (s x : Operand) (T T2 : TypeId)
  (hop : oi.op = .call { callee := .builtin .append,args := #[s,x],argTypes := #[T,T2] }) (hs : a.eval s = v) (hx : a.eval x = xv) (hr : (Builtin.append_ #[T,T2] oi.type #[v,xv]).run P w = .ok r w')
  (hk : wpList P ops Q' rest (a.put oi.dst r) w') : wpList P ops Q' (oi :: rest) a w :=
 wpList_plain hg fun K hK => by
  unfold Oper.wp execOp
  simp only [hop,resolve,invoke,builtin,Sem.run_bind,Sem.run_pure,Result.andThen_ok,List.map_toArray,List.map_cons,List.map_nil,hs,hx,hr]
  exact hK _ _ hk
end Go.Bh
namespace Go.Proofs.YtjojbhkgdkcaoaaGreat
open Go Go.RowKit Go.Bh Go.Shelf Go.Proofs.YtjojbhkgdkcaoaaGreatW.PrintLast
theorem grow115_ok (n : Nat) (w : World) (Q : Nat → Prop) (hn : n ≤ 100000000) :
  Calls Tryz.prog 115 #[.slice none 0 0,.int .i64 n] w fun e w' => (∃ v,e = .returned v ∧ RO w.heap.size Q 62 3 w' v 0 []) ∧ Below w.heap.size w w' := by
 rcases Nat.eq_zero_or_pos n with rfl | h0
 ·go_enter Tryz.func115,Tryz.ntmps115
  go_wp2_with fail
  go_ret
  exact ⟨⟨_,rfl,RO.nil _ _ _ _ _⟩,Below.refl _ _⟩
 ·obtain ⟨i,hi,hz,hsize,hby⟩ := info_parts info62
  have hap : ∀ W,(Builtin.append_ #[25,3] 25 #[.slice none 0 0,.int .i64 n]).run Tryz.prog W = .ok (.slice (some ⟨W.heap.size,0,none⟩) n (grownCap W n 0 62)) (W.drew.alloc (.cells (Builtin.zeroCells #[.int .i64 0,.int .i64 0,.slice none 0 0] n ++ Builtin.zeroCells #[.int .i64 0,.int .i64 0,.slice none 0 0] (grownCap W n 0 62 - n)) 62)) := fun W => by
   have h := Go.Lib.run_append_grow_zeros (P := Tryz.prog) W 25 3 25 62 i (.agg #[.int .i64 0,.int .i64 0,.slice none 0 0]) .i64 .i64 Tryz.underlying25 Tryz.underlying3 hi hz none 0 0 [] (by simp [Builtin.firstCells]) n h0 (by rw [hsize]; decide) (by omega) (by omega) (by rw [hby]; omega) (by rw [hby]; unfold Builtin.nextslicecap; rw [if_pos (by omega)]; omega)
   simpa [Value.cells] using h
  have hcap : ∀ W,n ≤ grownCap W n 0 62 := fun W => grownCap_ge W n 0 62
  have hn0 : (0 : Int) < (n : Int) := by omega
  go_enter Tryz.func115,Tryz.ntmps115
  go_wp2_with (at_builtin; refine append_run_list rfl (.tmp 20) (.tmp 21) 25 3 rfl (by rfl) (by rfl) (hap w) ?_)
  go_ret
  have hc1 := hcap w
  have hc2 : grownCap w n 0 62 ≤ maxLen := grownCap_le_maxLen w n 0 62 (by unfold maxLen; omega)
  generalize grownCap w n 0 62 = cap at hc1 hc2
  refine ⟨⟨_,rfl,.inr ⟨[],w.heap.size,cap,(Builtin.zeroCells #[.int .i64 0,.int .i64 0,.slice none 0 0] n ++ Builtin.zeroCells #[.int .i64 0,.int .i64 0,.slice none 0 0] (cap - n)),rfl,Nat.le_refl _,?_,Nat.zero_le _,hc2,?_,by simp,rfl,rfl,fun j x u hx => by simp at hx⟩⟩,?_⟩
  ·exact World.alloc_heap_new w _
  ·rw [Array.size_append,size_zeroCells,size_zeroCells]; simp; omega
  ·exact ((Below.refl _ w).alloc (Nat.le_refl _) _).drew
def rowsT (ls : List (List Tm)) : List VT := ls.map fun l => .row l.length (encTs l)
theorem flatten_take {α : Type} {ls : List (List α)} {m : Nat} {l : List α} (h : ls[m]? = some l) : (ls.take (m + 1)).flatten = (ls.take m).flatten ++ l := by
 rw [take_snoc h,List.flatten_append]; simp
theorem flatten_le {α : Type} (ls : List (List α)) (m : Nat) : (ls.take m).flatten.length ≤ ls.flatten.length := by
 have : ls.flatten = (ls.take m).flatten ++ (ls.drop m).flatten := by rw [← List.flatten_append,List.take_append_drop]
 rw [this,List.length_append]; omega
theorem concat36_ok (ls : List (List Tm)) (w : World) (v : Value) (P : Nat → Prop) (hP : ∀ b,P b → b < w.heap.size) (hv : VAt P w (.row ls.length (rowsT ls)) v) (hl : ls.flatten.length ≤ 100000000) (hl2 : ls.length ≤ 1000) :
  Calls Tryz.prog 36 #[v] w fun e w' => (∃ u,e = .returned u ∧ TsP (fun b => P b ∨ w.heap.size ≤ b) w' ls.flatten u) ∧ Below w.heap.size w w' := by
 obtain ⟨A,cap,rfl,_,q1⟩ := VAt.slice hv
 have HV := Lib.hid hv
 have HL := Lib.hid hl
 have HP := Lib.hid hP
 clear hv hl hP
 go_enter Tryz.func36,Tryz.ntmps36
 go_upto_region 3 with fail
 go_loopw [11,3] (fun i s wr => ∃ m : Nat,m ≤ ls.length ∧ i = .int .i64 m ∧ s = .int .i64 (ls.take m).flatten.length ∧ wr = w) (fun i _ _ => ls.length - (intOf i).toNat)
 case atStart => exact ⟨0,Nat.zero_le _,rfl,by simp,rfl⟩
 case round =>
  obtain ⟨m,hm,rfl,rfl,rfl⟩ := hrel
  by_cases hlt : m < ls.length
  ·obtain ⟨l,hx⟩ : ∃ c,ls[m]? = some c := ⟨_,List.getElem?_eq_getElem hlt⟩
   obtain ⟨b,o,u,rfl,hp,e0,hu⟩ := VAt.at HV.out (j:=m) (x := .row l.length (encTs l)) (by simp [rowsT,hx])
   obtain ⟨A2,c2,rfl,_,_⟩ := VAt.slice hu
   have i1 : (0 : Int) ≤ (m : Int) := by omega
   have i2 : (m : Int) < (ls.length : Int) := by omega
   have hs := flatten_take hx
   have hle := flatten_le ls (m + 1)
   rw [hs,List.length_append] at hle
   have hll := HL.out
   obtain ⟨s,hs0⟩ : ∃ s,s = (ls.take m).flatten.length := ⟨_,rfl⟩
   rw [← hs0] at hle ⊢
   have HS := Lib.hid hs
   have HS0 := Lib.hid hs0
   have i3 : ¬ ((s : Int) + (l.length : Int) < 0) := by omega
   clear hs hs0 hx hu
   go_wp2_with fail
   go_roundw
   case rel => exact ⟨m + 1,by omega,by go_num,by rw [HS.out,List.length_append,← HS0.out]; simp,trivial⟩
   case measure => simp [intOf]; omega
  ·obtain rfl : m = ls.length := by omega
   have i2 : (ls.length : Int) ≤ (ls.length : Int) := by omega
   rw [List.take_length]
   have HG := Lib.hid (grow115_ok ls.flatten.length wr P HL.out)
   obtain ⟨sz,hsz⟩ : ∃ z,z = ls.flatten.length := ⟨_,rfl⟩
   rw [← hsz] at HG ⊢
   have HSZ := Lib.hid hsz
   clear hsz
   go_wp2_with fail
   refine HG.out.mono ?_
   rintro e W3 ⟨⟨v,rfl,hro⟩,hb⟩
   have HR := Lib.hid hro
   have HB := Lib.hid hb
   clear hro hb
   obtain ⟨A6,c6,rfl,_,_⟩ := RO.form HR.out
   dsimp only
   go_wp2_with fail
   obtain ⟨W0,rfl⟩ : ∃ y,y = wr := ⟨_,rfl⟩
   go_loopw [27,6] (fun i s wr => ∃ m : Nat,m ≤ ls.length ∧ i = .int .i64 m ∧ ∃ (A7 : Option Addr) (c7 : Nat),s = .slice A7 (ls.take m).flatten.length c7 ∧ Hid (RO W0.heap.size P 62 3 wr (.slice A7 (ls.take m).flatten.length c7) (ls.take m).flatten.length (encTs (ls.take m).flatten)) ∧ Hid (Below W0.heap.size W0 wr)) (fun i _ _ => ls.length - (intOf i).toNat)
   case atStart => exact ⟨0,Nat.zero_le _,rfl,_,_,rfl,HR,HB⟩
   case round =>
    obtain ⟨m,hm,rfl,A7,c7,rfl,HR7,HB7⟩ := hrel
    have hz7 := HB7.out.size
    obtain ⟨s,hs0⟩ : ∃ s,s = (ls.take m).flatten.length := ⟨_,rfl⟩
    rw [← hs0] at HR7 ⊢
    have HS0 := Lib.hid hs0
    clear hs0
    by_cases hlt : m < ls.length
    ·obtain ⟨l,hx⟩ : ∃ c,ls[m]? = some c := ⟨_,List.getElem?_eq_getElem hlt⟩
     obtain ⟨b,o,u,rfl,hp,e0,hu⟩ := VAt.at HV.out (j:=m) (x := .row l.length (encTs l)) (by simp [rowsT,hx])
     obtain ⟨A2,c2,rfl,_,_⟩ := VAt.slice hu
     have e0 := (HB7.out.cell (p := ⟨b,_,none⟩) (HP.out b hp)).trans e0
     have i1 : (0 : Int) ≤ (m : Int) := by omega
     have i2 : (m : Int) < (ls.length : Int) := by omega
     have HF := Lib.hid (flatten_take hx)
     have HLe := Lib.hid (flatten_le ls (m + 1))
     rw [HF.out,List.length_append,← HS0.out] at HLe
     clear hx
     cases l with
     | nil =>
      clear hu
      obtain ⟨i,hi,_⟩ := info_parts info62
      have hq : s ≤ c7 := by obtain ⟨_,_,h,h2,_⟩ := RO.form HR7.out; injection h with _ _ h; omega
      go_wp2_with (at_builtin; refine append0_list rfl (.tmp 31) (.tmp 32) 25 rfl (by rfl) (by rfl) Tryz.underlying25 hi hq ?_)
      go_roundw
      case rel =>
       exact ⟨m + 1,by omega,by go_num,A7,c7,by rw [HF.out,List.append_nil,← HS0.out],by rw [HF.out,List.append_nil,← HS0.out]; exact HR7,HB7⟩
      case measure => simp [intOf]; omega
     | cons x l =>
      obtain ⟨b2,o2,hA2,hp2,hc2⟩ : ∃ b2 o2,A2 = some ⟨b2,o2,none⟩ ∧ P b2 ∧ CAt P W0 b2 (encTs (x :: l)) o2 := by
       obtain ⟨A',cap',h1,_,_,h4⟩ := hu
       injection h1 with h1
       subst h1
       rcases h4 with h | ⟨b2,o2,h5,h6,h7⟩
       ·simp [encTs,encT] at h
        cases x; simp [encT] at h
       ·exact ⟨b2,o2,h5,h6,h7⟩
      subst hA2
      obtain ⟨us,hus,hcell⟩ := hc2.cells
      have HN : Hid (Cs (fun b => (P b ∧ some b ≠ RO.row (.slice A7 s c7)) ∧ b < wr.heap.size) wr (encTs (x :: l)) us) := Lib.hid (hus.keep (fun b o u hb hc => ⟨⟨⟨hb,fun e => by have := (RO.row_lt HR7.out e.symm).1; have := HP.out b hb; omega⟩,by have := HP.out b hb; omega⟩,(HB7.out.cell (p := ⟨b,o,none⟩) (HP.out b hb)).trans hc⟩) (fun b hb => ⟨⟨hb,fun e => by have := (RO.row_lt HR7.out e.symm).1; have := HP.out b hb; omega⟩,by have := HP.out b hb; omega⟩))
      have HCell := Lib.hid hcell
      have HUl : Hid (us.length = (x :: l).length * 3) := Lib.hid (by rw [hus.1,encTs_len])
      have hll := HL.out
      clear hus hcell hc2 hu
      go_wp2_with (at_builtin; refine RO.append_list (base := W0.heap.size) (Q := P) rfl (.tmp 31) (.tmp 32) 25 rfl (by rfl) (by rfl) HR7.out (by omega) Tryz.underlying25 info62 rfl (by decide) us (encTs (x :: l)) HUl.out (fun j u hu => by rw [addr_add]; exact (HB7.out.cell (p := ⟨b2,_,none⟩) (HP.out b2 hp2)).trans (HCell.out j u hu)) HN.out (by simp) (by have := HLe.out; unfold maxLen; omega) (by have := HLe.out; omega) ?_; intro g cap2 w1 hro hgr hge)
      go_roundw
      case rel =>
       refine ⟨m + 1,by omega,by go_num,some ⟨g,0,none⟩,cap2,by rw [HF.out,List.length_append,← HS0.out]; rfl,Lib.hid ?_,Lib.hid ?_⟩
       ·rw [HF.out,List.length_append,← HS0.out,encTs_append]
        exact hro
       ·exact HB7.out.trans (grown_below' hgr (by omega) (fun b hb => (RO.row_lt HR7.out hb).1))
      case measure => simp [intOf]; omega
    ·obtain rfl : m = ls.length := by omega
     have i2 : (ls.length : Int) ≤ (ls.length : Int) := by omega
     rw [List.take_length] at HR7 HS0
     go_wp2_with fail
     go_ret
     refine ⟨⟨_,rfl,?_⟩,HB7.out⟩
     have := RO.vat (P := fun b => P b ∨ W0.heap.size ≤ b) HR7.out (fun _ h => .inl h) (fun _ h => .inr h)
     obtain rfl := HS0.out
     exact this
end Go.Proofs.YtjojbhkgdkcaoaaGreat
set_option maxRecDepth 100000
namespace Go.Bh
def sumN {α : Type} (f : α → Nat) : List α → Nat
 | [] => 0
 | x :: l => f x + sumN f l
mutual
def szT : Tm → Nat
 | .mk _ _ l => 1 + szTs l
def szTs : List Tm → Nat
 | [] => 0
 | t :: l => szT t + szTs l
end
theorem szTs_eq : ∀ l,szTs l = sumN szT l
 | [] => by rw [szTs,sumN]
 | t :: l => by rw [szTs,sumN,szTs_eq l]
def szO (o : Off) : Nat := 1 + szT o.t
def szP (p : Pr) : Nat := szT p.a + szT p.b
mutual
def szB : Be → Nat
 | .mk _ _ _ _ _ gates offers conds sorts t l => 1 + gates.length + sumN szO offers + sumN szP conds + sorts.length + sumN szT t + szBs l
def szBs : List Be → Nat
 | [] => 0
 | b :: l => szB b + szBs l
end
theorem szBs_eq : ∀ l,szBs l = sumN szB l
 | [] => by rw [szBs,sumN]
 | t :: l => by rw [szBs,sumN,szBs_eq l]
theorem sumN_len {α : Type} {f : α → Nat} (h : ∀ x,1 ≤ f x) : ∀ l : List α,l.length ≤ sumN f l
 | [] => Nat.zero_le _
 | x :: l => by have := h x; have := sumN_len h l; rw [List.length_cons,sumN]; omega
theorem sumN_mem {α : Type} {f : α → Nat} {x : α} : ∀ {l : List α},x ∈ l → f x ≤ sumN f l
 | y :: l,h => by
  rw [sumN]
  rcases List.mem_cons.1 h with rfl | h
  ·omega
  ·have := sumN_mem (f := f) h; omega
theorem szT_pos (t : Tm) : 1 ≤ szT t := by cases t; rw [szT]; omega
theorem szB_pos (b : Be) : 1 ≤ szB b := by cases b; rw [szB]; omega
theorem szO_pos (o : Off) : 1 ≤ szO o := by unfold szO; omega
theorem szP_pos (p : Pr) : 1 ≤ szP p := by have := szT_pos p.a; unfold szP; omega
end Go.Bh
namespace Go.Proofs.YtjojbhkgdkcaoaaGreat
open Go.ChangeShapes Go.WideShapes Go.ChangeAt Go.RowKit Go.Deep Go.Bh
section
variable {H : Type} {enc : TypeId × Value → H} {P : Program} {w : World} {base : Nat} {spare : Nat → Bool} {held : Bool}
theorem dec_list {α : Type} (en : α → List VT) (f : α → Nat) : ∀ ds : List (DataW H),(∀ d ∈ ds,∃ x,dcells d = en x ∧ f x ≤ Rows.uptoBulk d) → ∃ l : List α,l.length = ds.length ∧ dcellsAll ds = l.flatMap en ∧ sumN f l ≤ Rows.uptoBulkAll ds
 | [],_ => ⟨[],rfl,by simp [dcellsAll],Nat.zero_le _⟩
 | d :: ds,h => by
  obtain ⟨x,h1,h2⟩ := h d (by simp)
  obtain ⟨l,h3,h4,h5⟩ := dec_list en f ds fun e he => h e (by simp [he])
  exact ⟨x :: l,by simp [h3],by rw [dcellsAll,h1,h4,List.flatMap_cons],by rw [sumN,Rows.uptoBulkAll]; omega⟩
theorem dec_slice {α : Type} {t e : TypeId} (ht : P.underlying t = some (.slice e)) (en : α → List VT) (f : α → Nat) {n : Nat}
  (he : ∀ (k : Nat) (cs : List Value) (d : DataW H) (ps : List MemPlace),k < n → DataW.trod enc P w base spare held k e cs = some (d,ps) → ∃ x,dcells d = en x ∧ f x ≤ Rows.uptoBulk d)
  {cs : List Value} {d : DataW H} {ps : List MemPlace} (h : DataW.trod enc P w base spare held n t cs = some (d,ps)) : ∃ l : List α,dcells d = [.row l.length (l.flatMap en)] ∧ sumN f l + 1 ≤ Rows.uptoBulk d := by
 rcases DataW.trod_slice ht h with ⟨rfl,hx⟩ | ⟨a,len,cap,elems,rest,n',rfl,rfl,hx,hb,hl,hm,hlen,hel,_,_⟩
 ·injection hx with hx _
  subst hx
  exact ⟨[],by simp [dcells],by simp [Rows.uptoBulk,sumN]⟩
 ·injection hx with hx _
  subst hx
  obtain ⟨l,h1,h2,h3⟩ := dec_list en f (elems.map (·.1)) fun d hd => by
   obtain ⟨x,hx,rfl⟩ := List.mem_map.1 hd
   obtain ⟨i,hi⟩ := List.getElem?_of_mem hx
   have hil := (List.getElem?_eq_some_iff.1 hi).1
   have := hel i (by omega)
   rw [hi] at this
   obtain ⟨cs',_,h5⟩ := Option.bind_eq_some_iff.1 this
   exact he n' cs' x.1 x.2 (Nat.lt_succ_self _) h5
  exact ⟨l,by rw [dcells,h2,h1],by rw [Rows.uptoBulk]; omega⟩
theorem dec_int {n : Nat} {cs : List Value} {d : DataW H} {ps : List MemPlace} {t : TypeId} (hu : P.underlying t = some (.int .i64)) (h : DataW.trod enc P w base spare held n t cs = some (d,ps)) : ∃ z,dcells d = [.int z] ∧ 1 ≤ Rows.uptoBulk d := by
 obtain ⟨z,rfl,hx,_⟩ := DataW.trod_int hu h
 injection hx with hx _
 subst hx
 exact ⟨z,by simp [dcells],by simp [Rows.uptoBulk]⟩
theorem dec_bool {n : Nat} {cs : List Value} {d : DataW H} {ps : List MemPlace} {t : TypeId} (hu : P.underlying t = some .bool) (h : DataW.trod enc P w base spare held n t cs = some (d,ps)) : ∃ z,dcells d = [.bool z] ∧ 1 ≤ Rows.uptoBulk d := by
 obtain ⟨z,rfl,hx⟩ := DataW.trod_bool hu h
 injection hx with hx _
 subst hx
 exact ⟨z,by simp [dcells],by simp [Rows.uptoBulk]⟩
theorem dec_struct {t : TypeId} {fs : Array Field} (hu : P.underlying t = some (.struct fs)) {m : Nat} {cs : List Value} {d : DataW H} {ps : List MemPlace} (h : DataW.trod enc P w base spare held m t cs = some (d,ps)) :
  ∃ (xs : List (DataW H)) (n : Nat),m = n + 1 ∧ d = .agg xs ∧ xs.length = fs.size ∧ ∀ (i : Nat) (f : Field) (y : DataW H),fs[i]? = some f → xs[i]? = some y → ∃ cs' p',DataW.trod enc P w base spare held n f.type cs' = some (y,p') := by
 obtain ⟨xs,n,hn,hx,hlen,hxl,hf⟩ := DataW.trod_struct hu h
 injection hx with hx _
 refine ⟨xs.map (·.1),n,hn,hx,by simpa using hxl,fun i f y hi hy => ?_⟩
 rw [List.getElem?_map] at hy
 obtain ⟨x,h1,rfl⟩ := Option.map_eq_some_iff.1 hy
 exact ⟨_,x.2,by rw [hf i f hi,h1]⟩
end
section
variable {H : Type} {enc : TypeId × Value → H} {w : World} {base base0 : Nat} {spare : Nat → Bool} {held : Bool}
theorem Tryz.int3 : Tryz.prog.underlying 3 = some (.int .i64) := Tryz.underlying3
theorem dec_ints {n : Nat} {cs : List Value} {d : DataW H} {ps : List MemPlace} (h : DataW.trod enc Tryz.prog w base spare held n 22 cs = some (d,ps)) : ∃ l : List Int,dcells d = [.row l.length (ints l)] ∧ l.length + 1 ≤ Rows.uptoBulk d := by
 obtain ⟨l,h1,h2⟩ := dec_slice (n:=n) Tryz.underlying22 (fun x : Int => [VT.int x]) (fun _ => 1) (fun k cs d ps _ hk => by
  obtain ⟨z,h1,h2⟩ := dec_int Tryz.int3 hk
  exact ⟨z,h1,h2⟩) h
 have e : ∀ l : List Int,l.flatMap (fun x => [VT.int x]) = ints l := fun l => by induction l with | nil => rfl | cons x l ih => rw [List.flatMap_cons,ih]; rfl
 refine ⟨l,by rw [h1,e],?_⟩
 have := sumN_len (f := fun _ : Int => 1) (fun _ => Nat.le_refl _) l
 omega
theorem len3 {α : Type} {l : List α} (h : l.length = 3) : ∃ a b c,l = [a,b,c] := by
 match l,h with
 | [a,b,c],_ => exact ⟨a,b,c,rfl⟩
theorem len2 {α : Type} {l : List α} (h : l.length = 2) : ∃ a b,l = [a,b] := by
 match l,h with
 | [a,b],_ => exact ⟨a,b,rfl⟩
theorem len11 {α : Type} {l : List α} (h : l.length = 11) : ∃ a b c d e f g i j k m,l = [a,b,c,d,e,f,g,i,j,k,m] := by
 match l,h with
 | [a,b,c,d,e,f,g,i,j,k,m],_ => exact ⟨a,b,c,d,e,f,g,i,j,k,m,rfl⟩
theorem under62 : ∃ f0 f1 f2,Tryz.prog.underlying 62 = some (.struct #[f0,f1,f2]) ∧ f0.type = 3 ∧ f1.type = 3 ∧ f2.type = 25 := ⟨_,_,_,Tryz.underlying62,by kernel_rfl,by kernel_rfl,by kernel_rfl⟩
theorem under68 : ∃ f0 f1 f2,Tryz.prog.underlying 68 = some (.struct #[f0,f1,f2]) ∧ f0.type = 4 ∧ f1.type = 3 ∧ f2.type = 62 := ⟨_,_,_,Tryz.underlying68,by kernel_rfl,by kernel_rfl,by kernel_rfl⟩
theorem under115 : ∃ f0 f1,Tryz.prog.underlying 115 = some (.struct #[f0,f1]) ∧ f0.type = 62 ∧ f1.type = 62 := ⟨_,_,Tryz.underlying115,by kernel_rfl,by kernel_rfl⟩
theorem under54 : ∃ f0 f1,Tryz.prog.underlying 54 = some (.struct #[f0,f1]) ∧ f0.type = 3 ∧ f1.type = 25 := ⟨_,_,Tryz.underlying54,by kernel_rfl,by kernel_rfl⟩
theorem under28 : ∃ f0 f1 f2 f3 f4 f5 f6 f7 f8 f9 f10,Tryz.prog.underlying 28 = some (.struct #[f0,f1,f2,f3,f4,f5,f6,f7,f8,f9,f10]) ∧ f0.type = 3 ∧ f1.type = 3 ∧ f2.type = 3 ∧ f3.type = 3 ∧ f4.type = 3 ∧ f5.type = 22 ∧ f6.type = 23 ∧ f7.type = 24 ∧ f8.type = 22 ∧ f9.type = 25 ∧ f10.type = 26 :=
 ⟨_,_,_,_,_,_,_,_,_,_,_,Tryz.underlying28,by kernel_rfl,by kernel_rfl,by kernel_rfl,by kernel_rfl,by kernel_rfl,by kernel_rfl,by kernel_rfl,by kernel_rfl,by kernel_rfl,by kernel_rfl,by kernel_rfl⟩
theorem dec_tm : ∀ (n : Nat) (cs : List Value) (d : DataW H) (ps : List MemPlace),DataW.trod enc Tryz.prog w base spare held n 62 cs = some (d,ps) → ∃ t : Tm,dcells d = encT t ∧ szT t ≤ Rows.uptoBulk d := by
 intro n
 induction n using Nat.strongRecOn with
 | _ n ih =>
  intro cs d ps h
  obtain ⟨f0,f1,f2,hu,t0,t1,t2⟩ := under62
  obtain ⟨xs,m,rfl,rfl,hl,hf⟩ := dec_struct hu h
  obtain ⟨d0,d1,d2,rfl⟩ := len3 hl
  obtain ⟨c0,p0,k0⟩ := hf 0 f0 d0 rfl rfl
  obtain ⟨c1,p1,k1⟩ := hf 1 f1 d1 rfl rfl
  obtain ⟨c2,p2,k2⟩ := hf 2 f2 d2 rfl rfl
  rw [t0] at k0
  rw [t1] at k1
  rw [t2] at k2
  obtain ⟨z0,e0,b0⟩ := dec_int Tryz.int3 k0
  obtain ⟨z1,e1,b1⟩ := dec_int Tryz.int3 k1
  obtain ⟨l,e2,b2⟩ := dec_slice Tryz.underlying25 encT szT (fun k cs d ps hk h => ih k (by omega) cs d ps h) k2
  refine ⟨.mk z0 z1 l,?_,?_⟩
  ·simp only [dcells,dcellsAll,e0,e1,e2,encT,encTs_eq]; rfl
  ·simp only [Rows.uptoBulk,Rows.uptoBulkAll,szT,szTs_eq]; omega
theorem dec_tms {n : Nat} {cs : List Value} {d : DataW H} {ps : List MemPlace} (h : DataW.trod enc Tryz.prog w base spare held n 25 cs = some (d,ps)) : ∃ l : List Tm,dcells d = [.row l.length (encTs l)] ∧ sumN szT l + 1 ≤ Rows.uptoBulk d := by
 obtain ⟨l,h1,h2⟩ := dec_slice Tryz.underlying25 encT szT (fun k cs d ps hk h => dec_tm k cs d ps h) h
 exact ⟨l,by rw [h1,encTs_eq],h2⟩
theorem dec_off (n : Nat) (cs : List Value) (d : DataW H) (ps : List MemPlace) (h : DataW.trod enc Tryz.prog w base spare held n 68 cs = some (d,ps)) : ∃ o : Off,dcells d = encO o ∧ szO o ≤ Rows.uptoBulk d := by
 obtain ⟨f0,f1,f2,hu,t0,t1,t2⟩ := under68
 obtain ⟨xs,m,rfl,rfl,hl,hf⟩ := dec_struct hu h
 obtain ⟨d0,d1,d2,rfl⟩ := len3 hl
 obtain ⟨c0,p0,k0⟩ := hf 0 f0 d0 rfl rfl
 obtain ⟨c1,p1,k1⟩ := hf 1 f1 d1 rfl rfl
 obtain ⟨c2,p2,k2⟩ := hf 2 f2 d2 rfl rfl
 rw [t0] at k0
 rw [t1] at k1
 rw [t2] at k2
 obtain ⟨z0,e0,b0⟩ := dec_bool Tryz.underlying4 k0
 obtain ⟨z1,e1,b1⟩ := dec_int Tryz.int3 k1
 obtain ⟨t,e2,b2⟩ := dec_tm _ _ _ _ k2
 refine ⟨⟨z0,z1,t⟩,?_,?_⟩
 ·cases t; simp only [dcells,dcellsAll,e0,e1,e2,encO,encT,Tm.k,Tm.n,Tm.l]; rfl
 ·simp only [Rows.uptoBulk,Rows.uptoBulkAll,szO]; omega
theorem dec_pr (n : Nat) (cs : List Value) (d : DataW H) (ps : List MemPlace) (h : DataW.trod enc Tryz.prog w base spare held n 115 cs = some (d,ps)) : ∃ p : Pr,dcells d = encP p ∧ szP p ≤ Rows.uptoBulk d := by
 obtain ⟨f0,f1,hu,t0,t1⟩ := under115
 obtain ⟨xs,m,rfl,rfl,hl,hf⟩ := dec_struct hu h
 obtain ⟨d0,d1,rfl⟩ := len2 hl
 obtain ⟨c0,p0,k0⟩ := hf 0 f0 d0 rfl rfl
 obtain ⟨c1,p1,k1⟩ := hf 1 f1 d1 rfl rfl
 rw [t0] at k0
 rw [t1] at k1
 obtain ⟨a,e0,b0⟩ := dec_tm _ _ _ _ k0
 obtain ⟨b,e1,b1⟩ := dec_tm _ _ _ _ k1
 refine ⟨⟨a,b⟩,?_,?_⟩
 ·cases a; cases b; simp only [dcells,dcellsAll,e0,e1,encP,encT,Tm.k,Tm.n,Tm.l]; rfl
 ·simp only [Rows.uptoBulk,Rows.uptoBulkAll,szP]; omega
theorem dec_be : ∀ (n : Nat) (cs : List Value) (d : DataW H) (ps : List MemPlace),DataW.trod enc Tryz.prog w base spare held n 28 cs = some (d,ps) → ∃ b : Be,dcells d = encB b ∧ szB b ≤ Rows.uptoBulk d := by
 intro n
 induction n using Nat.strongRecOn with
 | _ n ih =>
  intro cs d ps h
  obtain ⟨f0,f1,f2,f3,f4,f5,f6,f7,f8,f9,f10,hu,t0,t1,t2,t3,t4,t5,t6,t7,t8,t9,t10⟩ := under28
  obtain ⟨xs,m,rfl,rfl,hl,hf⟩ := dec_struct hu h
  obtain ⟨d0,d1,d2,d3,d4,d5,d6,d7,d8,d9,d10,rfl⟩ := len11 hl
  obtain ⟨_,_,k0⟩ := hf 0 f0 d0 rfl rfl
  obtain ⟨_,_,k1⟩ := hf 1 f1 d1 rfl rfl
  obtain ⟨_,_,k2⟩ := hf 2 f2 d2 rfl rfl
  obtain ⟨_,_,k3⟩ := hf 3 f3 d3 rfl rfl
  obtain ⟨_,_,k4⟩ := hf 4 f4 d4 rfl rfl
  obtain ⟨_,_,k5⟩ := hf 5 f5 d5 rfl rfl
  obtain ⟨_,_,k6⟩ := hf 6 f6 d6 rfl rfl
  obtain ⟨_,_,k7⟩ := hf 7 f7 d7 rfl rfl
  obtain ⟨_,_,k8⟩ := hf 8 f8 d8 rfl rfl
  obtain ⟨_,_,k9⟩ := hf 9 f9 d9 rfl rfl
  obtain ⟨_,_,k10⟩ := hf 10 f10 d10 rfl rfl
  rw [t0] at k0
  rw [t1] at k1
  rw [t2] at k2
  rw [t3] at k3
  rw [t4] at k4
  rw [t5] at k5
  rw [t6] at k6
  rw [t7] at k7
  rw [t8] at k8
  rw [t9] at k9
  rw [t10] at k10
  obtain ⟨z0,e0,b0⟩ := dec_int Tryz.int3 k0
  obtain ⟨z1,e1,b1⟩ := dec_int Tryz.int3 k1
  obtain ⟨z2,e2,b2⟩ := dec_int Tryz.int3 k2
  obtain ⟨z3,e3,b3⟩ := dec_int Tryz.int3 k3
  obtain ⟨z4,e4,b4⟩ := dec_int Tryz.int3 k4
  obtain ⟨l5,e5,b5⟩ := dec_ints k5
  obtain ⟨l6,e6,b6⟩ := dec_slice Tryz.underlying23 encO szO (fun k cs d ps hk h => dec_off k cs d ps h) k6
  obtain ⟨l7,e7,b7⟩ := dec_slice Tryz.underlying24 encP szP (fun k cs d ps hk h => dec_pr k cs d ps h) k7
  obtain ⟨l8,e8,b8⟩ := dec_ints k8
  obtain ⟨l9,e9,b9⟩ := dec_tms k9
  obtain ⟨l10,e10,b10⟩ := dec_slice Tryz.underlying26 encB szB (fun k cs d ps hk h => ih k (by omega) cs d ps h) k10
  refine ⟨.mk z0 z1 z2 z3 z4 l5 l6 l7 l8 l9 l10,?_,?_⟩
  ·simp only [dcells,dcellsAll,e0,e1,e2,e3,e4,e5,e6,e7,e8,e9,e10,encB,encOs_eq,encPs_eq,encBs_eq]; rfl
  ·simp only [Rows.uptoBulk,Rows.uptoBulkAll,szB,szBs_eq]; omega
theorem flatAll : flatS Tryz.prog [3,4,22,23,24,25,26,28,62,68,115,54,46] = true := by kernel_rfl
theorem open_be {v : Value} {d : DataW H} {p : List MemPlace} (hv : Value.okWide Tryz.prog w .any base0 28 v) (h : DataW.Trod enc Tryz.prog w base spare held 28 v d p) : ∃ b : Be,Bv w b v ∧ BR b ∧ szB b ≤ Rows.uptoBulk d := by
 obtain ⟨fuel,h⟩ := h
 obtain ⟨b,hb,hs⟩ := dec_be _ _ _ _ h
 obtain ⟨hl,hc⟩ := trod_cs flatAll _ _ _ _ _ (by simp) h
 rw [hb] at hc
 obtain ⟨cs,rfl,_⟩ : ∃ cs,v = .agg cs ∧ cs.size = Tryz.prog.cellsOf 28 := by
  simp only [Value.okWide,Tryz.underlying28] at hv
  obtain ⟨cs,h1,h2,_⟩ := hv
  exact ⟨cs,h1,h2⟩
 obtain ⟨kind,n,gate,lo,hi,gates,offers,conds,sorts,t,l⟩ := b
 rw [encB] at hc
 have hl2 : cs.toList.length = 11 := by have := hc.1; simpa [Value.cells] using this
 obtain ⟨u0,u1,u2,u3,u4,u5,u6,u7,u8,u9,u10,hcs⟩ := len11 hl2
 have hcs' : (Value.agg cs).cells.toList = [u0,u1,u2,u3,u4,u5,u6,u7,u8,u9,u10] := hcs
 rw [hcs'] at hc
 have h0 := hc.2 0 _ _ rfl rfl
 have h1 := hc.2 1 _ _ rfl rfl
 have h2 := hc.2 2 _ _ rfl rfl
 have h3 := hc.2 3 _ _ rfl rfl
 have h4 := hc.2 4 _ _ rfl rfl
 have h5 := hc.2 5 _ _ rfl rfl
 have h6 := hc.2 6 _ _ rfl rfl
 have h7 := hc.2 7 _ _ rfl rfl
 have h8 := hc.2 8 _ _ rfl rfl
 have h9 := hc.2 9 _ _ rfl rfl
 have h10 := hc.2 10 _ _ rfl rfl
 obtain ⟨rfl,r0⟩ := h0
 obtain ⟨rfl,r1⟩ := h1
 obtain ⟨rfl,r2⟩ := h2
 obtain ⟨rfl,r3⟩ := h3
 obtain ⟨rfl,r4⟩ := h4
 refine ⟨.mk kind n gate lo hi gates offers conds sorts t l,⟨u5,u6,u7,u8,u9,u10,?_,h5,h6,h7,h8,h9,h10⟩,?_,hs⟩
 ·have := congrArg List.toArray hcs
  rw [Array.toArray_toList] at this
  rw [this]; rfl
 ·intro x hx
  simp only [Be.kind,Be.n,Be.gate,Be.lo,Be.hi,List.mem_cons,List.mem_nil_iff,or_false] at hx
  rcases hx with rfl | rfl | rfl | rfl | rfl <;> assumption
theorem open_label {v : Value} {d : DataW H} {p : List MemPlace} (hv : Value.okWide Tryz.prog w .any base0 54 v) (h : DataW.Trod enc Tryz.prog w base spare held 54 v d p) : ∃ (g : Int) (l : List Tm) (u : Value),v = .agg #[.int .i64 g,u] ∧ InR g ∧ Ts w l u ∧ sumN szT l ≤ Rows.uptoBulk d := by
 obtain ⟨fuel,h⟩ := h
 obtain ⟨hl,hc⟩ := trod_cs flatAll _ _ _ _ _ (by simp) h
 obtain ⟨f0,f1,hu,t0,t1⟩ := under54
 obtain ⟨xs,m,rfl,rfl,hxl,hf⟩ := dec_struct hu h
 obtain ⟨d0,d1,rfl⟩ := len2 hxl
 obtain ⟨_,_,k0⟩ := hf 0 f0 d0 rfl rfl
 obtain ⟨_,_,k1⟩ := hf 1 f1 d1 rfl rfl
 rw [t0] at k0
 rw [t1] at k1
 obtain ⟨z0,e0,b0⟩ := dec_int Tryz.int3 k0
 obtain ⟨l,e1,b1⟩ := dec_tms k1
 have hd : dcells (DataW.agg [d0,d1]) = [.int z0,.row l.length (encTs l)] := by simp only [dcells,dcellsAll,e0,e1]; rfl
 rw [hd] at hc
 obtain ⟨cs,rfl,_⟩ : ∃ cs,v = .agg cs ∧ cs.size = Tryz.prog.cellsOf 54 := by
  simp only [Value.okWide,Tryz.underlying54] at hv
  obtain ⟨cs,h1,h2,_⟩ := hv
  exact ⟨cs,h1,h2⟩
 have hl2 : cs.toList.length = 2 := by have := hc.1; simpa [Value.cells] using this
 obtain ⟨u0,u1,hcs⟩ := len2 hl2
 have hcs' : (Value.agg cs).cells.toList = [u0,u1] := hcs
 rw [hcs'] at hc
 obtain ⟨rfl,r0⟩ := hc.2 0 _ _ rfl rfl
 have h1 := hc.2 1 _ _ rfl rfl
 refine ⟨z0,l,u1,?_,r0,h1,?_⟩
 ·have := congrArg List.toArray hcs
  simpa using this
 ·simp only [Rows.uptoBulk,Rows.uptoBulkAll]; omega
end
end Go.Proofs.YtjojbhkgdkcaoaaGreat
