/- A part of the proof: texts of this session, joined. -/
import Derived.Test.YtjojbhkgdkcaoaaGreatBehJoinedOwn9
import Derived.Test.YtjojbhkgdkcaoaaGreatPart4
import Derived.Test.YtjojbhkgdkcaoaaGreatChecked
import Derived.Test.YtjojbhkgdkcaoaaGreatShort
set_option linter.unusedSimpArgs false
set_option linter.unusedVariables false
set_option maxHeartbeats 6400000
set_option maxRecDepth 100000
namespace Go.Proofs.YtjojbhkgdkcaoaaGreat
open Go Go.RowKit Go.Bh Go.Shelf Go.Proofs.YtjojbhkgdkcaoaaGreatW.PrintLast
theorem results_cell_tmp_row {P : Program} {fn : Func} {p u : Tmp} {ty : TypeId} (h : fn.results = #[.cell p ty,.tmp u]) (tmps : Array Value) (w : World) (g : Nat) (t : TypeId) (cs : Array Value) (fr : Nat × Nat) (d : TypeDesc) (v : Value)
  (hp : tmps.getD p undef = .pointer (some ⟨g,0,none⟩)) (hg : w.heap[g]? = some (.cells cs t fr))
  (hu : P.underlying ty = some d) (hd : (match d with | .struct _ | .array _ _ => true | _ => false) = true) (hi : (P.info? ty).map (·.size) = some cs.size) (hv : tmps.getD u undef = v) :
  (results fn tmps).run P w = .ok (.tuple #[.agg cs,v]) w := by
 have hp' : tmps[p]?.getD undef = .pointer (some ⟨g,0,none⟩) := by simpa using hp
 have hv' : tmps[u]?.getD undef = v := by simpa using hv
 rw [results_cell_tmp h]
 simp [hp',hv',asAddr,run_loadVar_row w g t ty cs fr d hg hu hd hi,Result.andThen]
theorem ints_len (l : List Int) : (ints l).length = l.length * 1 := by simp [ints]
theorem join_first (be : Bool) (al bl : List Int) (w : World) (va vb : Value) (ha : Is w al va) (hb : Is w bl vb) (hlen : bl.length ≤ 1000000000) :
  Calls Tryz.prog 27 #[.agg #[.bool false,va],.agg #[.bool be,vb]] w fun e w' => ∃ u,e = .returned (.tuple #[.agg #[.bool be,u],.bool true]) ∧ Is w' bl u ∧ Below w.heap.size w w' := by
 obtain ⟨A,acap,rfl,h1,h2⟩ := VAt.slice ha
 obtain ⟨B,bcap,rfl,h3,h4⟩ := VAt.slice hb
 obtain ⟨W1,hW1⟩ : ∃ y,y = ((w.alloc (.cells #[.bool false,.slice A al.length acap] 46)).alloc (.cells #[.bool be,.slice B bl.length bcap] 46)).alloc (.cells #[.bool false,.slice none 0 0] 46) := ⟨_,rfl⟩
 have hz1 : W1.heap.size = w.heap.size + 3 := by rw [hW1]; simp
 have hb1 : Below w.heap.size w W1 := by rw [hW1]; exact (((Below.refl _ w).alloc (Nat.le_refl _) _).alloc (by simp) _).alloc (by simp; omega) _
 have b0 : W1.cell? ⟨w.heap.size + 1,0,none⟩ = some (.bool be) := by rw [hW1]; go_simp
 have b1 : W1.cell? ⟨w.heap.size + 1,1,none⟩ = some (.slice B bl.length bcap) := by rw [hW1]; go_simp
 have k2 : W1.heap[w.heap.size + 1 + 1]? = some (.cells #[.bool false,.slice none 0 0] 46) := by rw [hW1]; have := World.alloc_heap_new ((w.alloc (.cells #[.bool false,.slice A al.length acap] 46)).alloc (.cells #[.bool be,.slice B bl.length bcap] 46)) (.cells #[.bool false,.slice none 0 0] 46); simpa using this
 have K2 := Lib.hid k2
 have HB1 := Lib.hid hb1
 have HW1 := Lib.hid hW1
 have HCL := Lib.hid (clone104_ok bl.length (ints bl) W1.drew (.slice B bl.length bcap) (P := (· < w.heap.size)) (fun b hb => by show b < W1.heap.size; omega) (VAt.keep (w := W1) (w' := W1.drew) (fun _ _ _ h k => ⟨h,k⟩) (fun _ h => h) _ _ (VAt.up (fun _ h => h) hb1 (Vt.bound hb))) (ints_len bl) hlen)
 clear ha hb hb1 hW1 k2
 go_enter Tryz.func27,Tryz.ntmps27
 go_upto_region 2 with fail
 rw [← HW1.out]
 refine start_ (n:=8) (S:=fun w' => w'.cell? ⟨w.heap.size + 1,0,none⟩ = some (.bool be) ∧ w'.cell? ⟨w.heap.size + 1,1,none⟩ = some (.slice B bl.length bcap)) (ds := [6]) #[f_,f_,f_,f_,f_,f_,f_,f_] (by kernel_rfl) rfl rfl ⟨b0,b1⟩ (fun hHeld => ?_)
 refine pv_ (i:=0) (N:=some 10) (v:=?_) (a':=?_) rfl rfl (by kernel_rfl) (fun _ _ _ h => h) (Or.inl ⟨by rfl,?_⟩) ?_ ?_
 rotate_left;intro w';go_simp;with_reducible rfl;rotate_left;simp only [Act.put,sA_,sB_,sC_,i64_w,i32_w];rfl
 refine pv_ (i:=2) (N:=some 12) (v:=?_) (a':=?_) rfl rfl (by kernel_rfl) (fun _ _ _ h => h) (Or.inl ⟨by rfl,?_⟩) ?_ ?_
 rotate_left;intro w';go_simp;with_reducible rfl;rotate_left;simp only [Act.put,sA_,sB_,sC_,i64_w,i32_w];rfl
 refine tv_ (i:=1) (N:=some 11) (v:=?_) (a':=?_) rfl rfl (by kernel_rfl) (fun _ _ _ h => h) (Or.inl ⟨by rfl,?_⟩) hHeld ?_ ?_
 rotate_left;rintro w' ⟨s0,s1⟩;go_simp;with_reducible rfl;rotate_left;simp only [Act.put,sA_,sB_,sC_,i64_w,i32_w];rfl
 refine tv_ (i:=3) (N:=some 13) (v:=?_) (a':=?_) rfl rfl (by kernel_rfl) (fun _ _ _ h => h) (Or.inl ⟨by rfl,?_⟩) hHeld ?_ ?_
 rotate_left;rintro w' ⟨s0,s1⟩;go_simp;with_reducible rfl;rotate_left;simp only [Act.put,sA_,sB_,sC_,i64_w,i32_w];rfl
 refine one_ (i:=4) (N:=some 14) #[t_,t_,t_,t_,t_,f_,f_,f_] rfl rfl (by kernel_rfl) (by decide) (fun K hK => ?_)
 refine goes_ Tryz.func104 (by kernel_rfl) rfl #[.slice B bl.length bcap] (by rfl) rfl rfl (by simp only [List.map_toArray,List.map_cons,List.map_nil]; rfl) ?_
 refine HCL.out.mono ?_
 rintro e w2 ⟨v',rfl,hro,hb2⟩
 obtain ⟨A',cap',rfl,q1,q2⟩ := hro.form
 have HRO := Lib.hid hro
 have HB2 := Lib.hid hb2
 have k2 := (hb2.block (w.heap.size + 1 + 1) (by show _ < W1.heap.size; omega)).trans K2.out
 have K3 := Lib.hid k2
 have r0 := cell_at k2 0 rfl
 have r1 := cell_at k2 1 rfl
 have z0 : w2.frozen? ⟨w.heap.size + 1 + 1,0,none⟩ = false := by simp [World.frozen?,k2]
 have z1 : w2.frozen? ⟨w.heap.size + 1 + 1,1,none⟩ = false := by simp [World.frozen?,k2]
 clear hro k2
 refine ⟨_,rfl,?_⟩
 refine hK.out _ _ ⟨(Below.cellOf hb2 hHeld.1),(Below.cellOf hb2 hHeld.2)⟩ (fun hHeld => ?_)
 clear hK K
 refine norm_ (a':=?_) ?_ ?_
 rotate_left
 ·show Act.put _ (some 14) _ = _
  simp only [Act.put,sA_,sB_,sC_,i64_w,i32_w]
  rfl
 refine pv_ (i:=5) (N:=some 15) (v:=?_) (a':=?_) rfl rfl (by kernel_rfl) (fun _ _ _ h => h) (Or.inl ⟨by rfl,?_⟩) ?_ ?_
 rotate_left;intro w';go_simp;with_reducible rfl;rotate_left;simp only [Act.put,sA_,sB_,sC_,i64_w,i32_w];rfl
 refine last_ (i:=6) (N:=none) #[t_,t_,t_,t_,t_,t_,t_,f_] rfl rfl (by kernel_rfl) (by decide) (fun K hK => ?_)
 refine skip_ (w1:=?_) (by rfl) rfl ?_ ?_
 rotate_left
 ·go_simp
  rfl
 refine hK.out _ _ ?_
 clear hK K
 refine pv_ (i:=7) (N:=some 5) (v:=?_) (a':=?_) rfl rfl (by kernel_rfl) (fun _ _ _ h => h) (Or.inl ⟨by rfl,?_⟩) ?_ ?_
 rotate_left;intro w';go_simp;with_reducible rfl;rotate_left;simp only [Act.put,sA_,sB_,sC_,i64_w,i32_w];rfl
 refine done_ (by kernel_rfl) ?_
 clear hHeld
 go_wp2_with fail
 (try simp only [Exit.inBlock,Exit.then])
 refine bodyPost_ret (results_cell_tmp_row rfl _ _ (w.heap.size + 1 + 1) 46 #[.bool be,.slice A' bl.length cap'] (0,0) _ (.bool true) rfl (by simp [World.setCell,Array.getElem?_modify,K3.out]) Tryz.underlying46 rfl (by kernel_rfl) rfl) rfl ?_
 refine ⟨_,rfl,?_,?_⟩
 ·have hro := HRO.out
  have e1 : w.heap.size + 3 ≤ W1.drew.heap.size := by show _ ≤ W1.heap.size; omega
  exact VAt.weak (P := fun b => True) (RO.vat (P := fun _ => True) (RO.other (RO.other hro (grown_set _ (w.heap.size + 1 + 1) 0 (.bool be)) (fun b e _ hb => by injection e with e; have : b < w.heap.size := hb; omega) (fun b e => by injection e with e; omega)) (grown_set _ (w.heap.size + 1 + 1) 1 (.slice A' bl.length cap')) (fun b e _ hb => by injection e with e; have : b < w.heap.size := hb; omega) (fun b e => by injection e with e; omega)) (fun _ _ => trivial) (fun _ _ => trivial))
 ·exact (((HB1.out.drew).trans (HB2.out.mono HB1.out.size)).setCell (p := ⟨w.heap.size + 1 + 1,0,none⟩) (by simp; omega) _).setCell (p := ⟨w.heap.size + 1 + 1,1,none⟩) (by simp; omega) _
theorem join_keep0 (al bl : List Int) (w : World) (va vb : Value) (ha : Is w al va) (hb : Is w bl vb) (hlen : al.length ≤ 1000000000) :
  Calls Tryz.prog 27 #[.agg #[.bool true,va],.agg #[.bool false,vb]] w fun e w' => ∃ u,e = .returned (.tuple #[.agg #[.bool true,u],.bool true]) ∧ Is w' al u ∧ Below w.heap.size w w' := by
 obtain ⟨A,acap,rfl,h1,h2⟩ := VAt.slice ha
 obtain ⟨B,bcap,rfl,h3,h4⟩ := VAt.slice hb
 obtain ⟨W1,hW1⟩ : ∃ y,y = ((w.alloc (.cells #[.bool true,.slice A al.length acap] 46)).alloc (.cells #[.bool false,.slice B bl.length bcap] 46)).alloc (.cells #[.bool false,.slice none 0 0] 46) := ⟨_,rfl⟩
 have hz1 : W1.heap.size = w.heap.size + 3 := by rw [hW1]; simp
 have hb1 : Below w.heap.size w W1 := by rw [hW1]; exact (((Below.refl _ w).alloc (Nat.le_refl _) _).alloc (by simp) _).alloc (by simp; omega) _
 have b0 : W1.cell? ⟨w.heap.size,0,none⟩ = some (.bool true) := by rw [hW1]; go_simp
 have y0 : W1.cell? ⟨w.heap.size + 1,0,none⟩ = some (.bool false) := by rw [hW1]; go_simp
 have b1 : W1.cell? ⟨w.heap.size,1,none⟩ = some (.slice A al.length acap) := by rw [hW1]; go_simp
 have k2 : W1.heap[w.heap.size + 1 + 1]? = some (.cells #[.bool false,.slice none 0 0] 46) := by rw [hW1]; have := World.alloc_heap_new ((w.alloc (.cells #[.bool true,.slice A al.length acap] 46)).alloc (.cells #[.bool false,.slice B bl.length bcap] 46)) (.cells #[.bool false,.slice none 0 0] 46); simpa using this
 have K2 := Lib.hid k2
 have HB1 := Lib.hid hb1
 have HW1 := Lib.hid hW1
 have HCL := Lib.hid (clone104_ok al.length (ints al) W1.drew (.slice A al.length acap) (P := (· < w.heap.size)) (fun b hb => by show b < W1.heap.size; omega) (VAt.keep (w := W1) (w' := W1.drew) (fun _ _ _ h k => ⟨h,k⟩) (fun _ h => h) _ _ (VAt.up (fun _ h => h) hb1 (Vt.bound ha))) (ints_len al) hlen)
 clear ha hb hb1 hW1 k2
 go_enter Tryz.func27,Tryz.ntmps27
 go_upto_region 1 with fail
 rw [← HW1.out]
 go_upto_region 4 with fail
 refine start_ (n:=8) (S:=fun w' => w'.cell? ⟨w.heap.size,0,none⟩ = some (.bool true) ∧ w'.cell? ⟨w.heap.size,1,none⟩ = some (.slice A al.length acap)) (ds := [6]) #[f_,f_,f_,f_,f_,f_,f_,f_] (by kernel_rfl) rfl rfl ⟨b0,b1⟩ (fun hHeld => ?_)
 refine pv_ (i:=0) (N:=some 27) (v:=?_) (a':=?_) rfl rfl (by kernel_rfl) (fun _ _ _ h => h) (Or.inl ⟨by rfl,?_⟩) ?_ ?_
 rotate_left;intro w';go_simp;with_reducible rfl;rotate_left;simp only [Act.put,sA_,sB_,sC_,i64_w,i32_w];rfl
 refine pv_ (i:=2) (N:=some 29) (v:=?_) (a':=?_) rfl rfl (by kernel_rfl) (fun _ _ _ h => h) (Or.inl ⟨by rfl,?_⟩) ?_ ?_
 rotate_left;intro w';go_simp;with_reducible rfl;rotate_left;simp only [Act.put,sA_,sB_,sC_,i64_w,i32_w];rfl
 refine tv_ (i:=1) (N:=some 28) (v:=?_) (a':=?_) rfl rfl (by kernel_rfl) (fun _ _ _ h => h) (Or.inl ⟨by rfl,?_⟩) hHeld ?_ ?_
 rotate_left;rintro w' ⟨s0,s1⟩;go_simp;with_reducible rfl;rotate_left;simp only [Act.put,sA_,sB_,sC_,i64_w,i32_w];rfl
 refine tv_ (i:=3) (N:=some 30) (v:=?_) (a':=?_) rfl rfl (by kernel_rfl) (fun _ _ _ h => h) (Or.inl ⟨by rfl,?_⟩) hHeld ?_ ?_
 rotate_left;rintro w' ⟨s0,s1⟩;go_simp;with_reducible rfl;rotate_left;simp only [Act.put,sA_,sB_,sC_,i64_w,i32_w];rfl
 refine one_ (i:=4) (N:=some 31) #[t_,t_,t_,t_,t_,f_,f_,f_] rfl rfl (by kernel_rfl) (by decide) (fun K hK => ?_)
 refine goes_ Tryz.func104 (by kernel_rfl) rfl #[.slice A al.length acap] (by rfl) rfl rfl (by simp only [List.map_toArray,List.map_cons,List.map_nil]; rfl) ?_
 refine HCL.out.mono ?_
 rintro e w2 ⟨v',rfl,hro,hb2⟩
 obtain ⟨A',cap',rfl,q1,q2⟩ := hro.form
 have HRO := Lib.hid hro
 have HB2 := Lib.hid hb2
 have k2 := (hb2.block (w.heap.size + 1 + 1) (by show _ < W1.heap.size; omega)).trans K2.out
 have K3 := Lib.hid k2
 have r0 := cell_at k2 0 rfl
 have r1 := cell_at k2 1 rfl
 have z0 : w2.frozen? ⟨w.heap.size + 1 + 1,0,none⟩ = false := by simp [World.frozen?,k2]
 have z1 : w2.frozen? ⟨w.heap.size + 1 + 1,1,none⟩ = false := by simp [World.frozen?,k2]
 clear hro k2
 refine ⟨_,rfl,?_⟩
 refine hK.out _ _ ⟨(Below.cellOf hb2 hHeld.1),(Below.cellOf hb2 hHeld.2)⟩ (fun hHeld => ?_)
 clear hK K
 refine norm_ (a':=?_) ?_ ?_
 rotate_left
 ·show Act.put _ (some 31) _ = _
  simp only [Act.put,sA_,sB_,sC_,i64_w,i32_w]
  rfl
 refine pv_ (i:=5) (N:=some 32) (v:=?_) (a':=?_) rfl rfl (by kernel_rfl) (fun _ _ _ h => h) (Or.inl ⟨by rfl,?_⟩) ?_ ?_
 rotate_left;intro w';go_simp;with_reducible rfl;rotate_left;simp only [Act.put,sA_,sB_,sC_,i64_w,i32_w];rfl
 refine last_ (i:=6) (N:=none) #[t_,t_,t_,t_,t_,t_,t_,f_] rfl rfl (by kernel_rfl) (by decide) (fun K hK => ?_)
 refine skip_ (w1:=?_) (by rfl) rfl ?_ ?_
 rotate_left
 ·go_simp
  rfl
 refine hK.out _ _ ?_
 clear hK K
 refine pv_ (i:=7) (N:=some 5) (v:=?_) (a':=?_) rfl rfl (by kernel_rfl) (fun _ _ _ h => h) (Or.inl ⟨by rfl,?_⟩) ?_ ?_
 rotate_left;intro w';go_simp;with_reducible rfl;rotate_left;simp only [Act.put,sA_,sB_,sC_,i64_w,i32_w];rfl
 refine done_ (by kernel_rfl) ?_
 clear hHeld
 go_wp2_with fail
 (try simp only [Exit.inBlock,Exit.then])
 refine bodyPost_ret (results_cell_tmp_row rfl _ _ (w.heap.size + 1 + 1) 46 #[.bool true,.slice A' al.length cap'] (0,0) _ (.bool true) rfl (by simp [World.setCell,Array.getElem?_modify,K3.out]) Tryz.underlying46 rfl (by kernel_rfl) rfl) rfl ?_
 refine ⟨_,rfl,?_,?_⟩
 ·have hro := HRO.out
  have e1 : w.heap.size + 3 ≤ W1.drew.heap.size := by show _ ≤ W1.heap.size; omega
  exact VAt.weak (P := fun b => True) (RO.vat (P := fun _ => True) (RO.other (RO.other hro (grown_set _ (w.heap.size + 1 + 1) 0 (.bool true)) (fun b e _ hb => by injection e with e; have : b < w.heap.size := hb; omega) (fun b e => by injection e with e; omega)) (grown_set _ (w.heap.size + 1 + 1) 1 (.slice A' al.length cap')) (fun b e _ hb => by injection e with e; have : b < w.heap.size := hb; omega) (fun b e => by injection e with e; omega)) (fun _ _ => trivial) (fun _ _ => trivial))
 ·exact (((HB1.out.drew).trans (HB2.out.mono HB1.out.size)).setCell (p := ⟨w.heap.size + 1 + 1,0,none⟩) (by simp; omega) _).setCell (p := ⟨w.heap.size + 1 + 1,1,none⟩) (by simp; omega) _
theorem join_keep1 (al bl : List Int) (w : World) (va vb : Value) (ha : Is w al va) (hb : Is w bl vb) (he : al = bl) (hlen : al.length ≤ 1000000000) :
  Calls Tryz.prog 27 #[.agg #[.bool true,va],.agg #[.bool true,vb]] w fun e w' => ∃ u,e = .returned (.tuple #[.agg #[.bool true,u],.bool true]) ∧ Is w' al u ∧ Below w.heap.size w w' := by
 obtain ⟨A,acap,rfl,h1,h2⟩ := VAt.slice ha
 obtain ⟨B,bcap,rfl,h3,h4⟩ := VAt.slice hb
 obtain ⟨W1,hW1⟩ : ∃ y,y = ((w.alloc (.cells #[.bool true,.slice A al.length acap] 46)).alloc (.cells #[.bool true,.slice B bl.length bcap] 46)).alloc (.cells #[.bool false,.slice none 0 0] 46) := ⟨_,rfl⟩
 have hz1 : W1.heap.size = w.heap.size + 3 := by rw [hW1]; simp
 have hb1 : Below w.heap.size w W1 := by rw [hW1]; exact (((Below.refl _ w).alloc (Nat.le_refl _) _).alloc (by simp) _).alloc (by simp; omega) _
 have b0 : W1.cell? ⟨w.heap.size,0,none⟩ = some (.bool true) := by rw [hW1]; go_simp
 have y0 : W1.cell? ⟨w.heap.size + 1,0,none⟩ = some (.bool true) := by rw [hW1]; go_simp
 have y1 : W1.cell? ⟨w.heap.size + 1,1,none⟩ = some (.slice B bl.length bcap) := by rw [hW1]; go_simp
 have b1 : W1.cell? ⟨w.heap.size,1,none⟩ = some (.slice A al.length acap) := by rw [hW1]; go_simp
 have k2 : W1.heap[w.heap.size + 1 + 1]? = some (.cells #[.bool false,.slice none 0 0] 46) := by rw [hW1]; have := World.alloc_heap_new ((w.alloc (.cells #[.bool true,.slice A al.length acap] 46)).alloc (.cells #[.bool true,.slice B bl.length bcap] 46)) (.cells #[.bool false,.slice none 0 0] 46); simpa using this
 have K2 := Lib.hid k2
 have HB1 := Lib.hid hb1
 have HW1 := Lib.hid hW1
 have HCL := Lib.hid (fun (W : World) (hW : Below W1.heap.size W1 W) => clone104_ok al.length (ints al) W.drew (.slice A al.length acap) (P := (· < w.heap.size)) (fun b hb => by have := hW.size; show b < W.heap.size; omega) (VAt.keep (w := W) (w' := W.drew) (fun _ _ _ h k => ⟨h,k⟩) (fun _ h => h) _ _ (VAt.up (fun _ h => h) (hb1.trans (hW.mono hb1.size)) (Vt.bound ha))) (ints_len al) hlen)
 have HEQ := Lib.hid (equal_ok al bl W1 _ _ (Vt.below ha hb1) (Vt.below hb hb1))
 rw [show (al == bl) = true by rw [he]; simp] at HEQ
 clear he
 clear ha hb hb1 hW1 k2
 go_enter Tryz.func27,Tryz.ntmps27
 go_upto_region 1 with fail
 rw [← HW1.out]
 go_upto_region 4 with (
  go_at_call 25
  refine HEQ.out.mono ?_
  rintro e wq ⟨rfl,hbq⟩
  have HBQ := Lib.hid hbq
  clear hbq)
 have hzq := HBQ.out.size
 refine start_ (n:=8) (S:=fun w' => w'.cell? ⟨w.heap.size,0,none⟩ = some (.bool true) ∧ w'.cell? ⟨w.heap.size,1,none⟩ = some (.slice A al.length acap)) (ds := [6]) #[f_,f_,f_,f_,f_,f_,f_,f_] (by kernel_rfl) rfl rfl ⟨(Below.cellOf HBQ.out b0),(Below.cellOf HBQ.out b1)⟩ (fun hHeld => ?_)
 refine pv_ (i:=0) (N:=some 27) (v:=?_) (a':=?_) rfl rfl (by kernel_rfl) (fun _ _ _ h => h) (Or.inl ⟨by rfl,?_⟩) ?_ ?_
 rotate_left;intro w';go_simp;with_reducible rfl;rotate_left;simp only [Act.put,sA_,sB_,sC_,i64_w,i32_w];rfl
 refine pv_ (i:=2) (N:=some 29) (v:=?_) (a':=?_) rfl rfl (by kernel_rfl) (fun _ _ _ h => h) (Or.inl ⟨by rfl,?_⟩) ?_ ?_
 rotate_left;intro w';go_simp;with_reducible rfl;rotate_left;simp only [Act.put,sA_,sB_,sC_,i64_w,i32_w];rfl
 refine tv_ (i:=1) (N:=some 28) (v:=?_) (a':=?_) rfl rfl (by kernel_rfl) (fun _ _ _ h => h) (Or.inl ⟨by rfl,?_⟩) hHeld ?_ ?_
 rotate_left;rintro w' ⟨s0,s1⟩;go_simp;with_reducible rfl;rotate_left;simp only [Act.put,sA_,sB_,sC_,i64_w,i32_w];rfl
 refine tv_ (i:=3) (N:=some 30) (v:=?_) (a':=?_) rfl rfl (by kernel_rfl) (fun _ _ _ h => h) (Or.inl ⟨by rfl,?_⟩) hHeld ?_ ?_
 rotate_left;rintro w' ⟨s0,s1⟩;go_simp;with_reducible rfl;rotate_left;simp only [Act.put,sA_,sB_,sC_,i64_w,i32_w];rfl
 refine one_ (i:=4) (N:=some 31) #[t_,t_,t_,t_,t_,f_,f_,f_] rfl rfl (by kernel_rfl) (by decide) (fun K hK => ?_)
 refine goes_ Tryz.func104 (by kernel_rfl) rfl #[.slice A al.length acap] (by rfl) rfl rfl (by simp only [List.map_toArray,List.map_cons,List.map_nil]; rfl) ?_
 refine (HCL.out wq HBQ.out).mono ?_
 rintro e w2 ⟨v',rfl,hro,hb2⟩
 obtain ⟨A',cap',rfl,q1,q2⟩ := hro.form
 have HRO := Lib.hid hro
 have HB2 := Lib.hid hb2
 have k2 := (hb2.block (w.heap.size + 1 + 1) (by show _ < wq.heap.size; omega)).trans ((HBQ.out.block (w.heap.size + 1 + 1) (by omega)).trans K2.out)
 have K3 := Lib.hid k2
 have r0 := cell_at k2 0 rfl
 have r1 := cell_at k2 1 rfl
 have z0 : w2.frozen? ⟨w.heap.size + 1 + 1,0,none⟩ = false := by simp [World.frozen?,k2]
 have z1 : w2.frozen? ⟨w.heap.size + 1 + 1,1,none⟩ = false := by simp [World.frozen?,k2]
 clear hro k2
 refine ⟨_,rfl,?_⟩
 refine hK.out _ _ ⟨(Below.cellOf hb2 hHeld.1),(Below.cellOf hb2 hHeld.2)⟩ (fun hHeld => ?_)
 clear hK K
 refine norm_ (a':=?_) ?_ ?_
 rotate_left
 ·show Act.put _ (some 31) _ = _
  simp only [Act.put,sA_,sB_,sC_,i64_w,i32_w]
  rfl
 refine pv_ (i:=5) (N:=some 32) (v:=?_) (a':=?_) rfl rfl (by kernel_rfl) (fun _ _ _ h => h) (Or.inl ⟨by rfl,?_⟩) ?_ ?_
 rotate_left;intro w';go_simp;with_reducible rfl;rotate_left;simp only [Act.put,sA_,sB_,sC_,i64_w,i32_w];rfl
 refine last_ (i:=6) (N:=none) #[t_,t_,t_,t_,t_,t_,t_,f_] rfl rfl (by kernel_rfl) (by decide) (fun K hK => ?_)
 refine skip_ (w1:=?_) (by rfl) rfl ?_ ?_
 rotate_left
 ·go_simp
  rfl
 refine hK.out _ _ ?_
 clear hK K
 refine pv_ (i:=7) (N:=some 5) (v:=?_) (a':=?_) rfl rfl (by kernel_rfl) (fun _ _ _ h => h) (Or.inl ⟨by rfl,?_⟩) ?_ ?_
 rotate_left;intro w';go_simp;with_reducible rfl;rotate_left;simp only [Act.put,sA_,sB_,sC_,i64_w,i32_w];rfl
 refine done_ (by kernel_rfl) ?_
 clear hHeld
 go_wp2_with fail
 (try simp only [Exit.inBlock,Exit.then])
 refine bodyPost_ret (results_cell_tmp_row rfl _ _ (w.heap.size + 1 + 1) 46 #[.bool true,.slice A' al.length cap'] (0,0) _ (.bool true) rfl (by simp [World.setCell,Array.getElem?_modify,K3.out]) Tryz.underlying46 rfl (by kernel_rfl) rfl) rfl ?_
 refine ⟨_,rfl,?_,?_⟩
 ·have hro := HRO.out
  have e1 : w.heap.size + 3 ≤ wq.drew.heap.size := by show _ ≤ wq.heap.size; omega
  exact VAt.weak (P := fun b => True) (RO.vat (P := fun _ => True) (RO.other (RO.other hro (grown_set _ (w.heap.size + 1 + 1) 0 (.bool true)) (fun b e _ hb => by injection e with e; have : b < w.heap.size := hb; omega) (fun b e => by injection e with e; omega)) (grown_set _ (w.heap.size + 1 + 1) 1 (.slice A' al.length cap')) (fun b e _ hb => by injection e with e; have : b < w.heap.size := hb; omega) (fun b e => by injection e with e; omega)) (fun _ _ => trivial) (fun _ _ => trivial))
 ·exact (((HB1.out.trans (HBQ.out.mono HB1.out.size)).drew.trans (HB2.out.mono (by have := HB1.out.size; show _ ≤ wq.heap.size; omega))).setCell (p := ⟨w.heap.size + 1 + 1,0,none⟩) (by simp; omega) _).setCell (p := ⟨w.heap.size + 1 + 1,1,none⟩) (by simp; omega) _
theorem join_none (al bl : List Int) (w : World) (va vb : Value) (ha : Is w al va) (hb : Is w bl vb) (he : ¬ al = bl):
  Calls Tryz.prog 27 #[.agg #[.bool true,va],.agg #[.bool true,vb]] w fun e w' => e = .returned (.tuple #[.agg #[.bool false,.slice none 0 0],.bool false]) ∧ Below w.heap.size w w' := by
 obtain ⟨A,acap,rfl,h1,h2⟩ := VAt.slice ha
 obtain ⟨B,bcap,rfl,h3,h4⟩ := VAt.slice hb
 obtain ⟨W1,hW1⟩ : ∃ y,y = ((w.alloc (.cells #[.bool true,.slice A al.length acap] 46)).alloc (.cells #[.bool true,.slice B bl.length bcap] 46)).alloc (.cells #[.bool false,.slice none 0 0] 46) := ⟨_,rfl⟩
 have hz1 : W1.heap.size = w.heap.size + 3 := by rw [hW1]; simp
 have hb1 : Below w.heap.size w W1 := by rw [hW1]; exact (((Below.refl _ w).alloc (Nat.le_refl _) _).alloc (by simp) _).alloc (by simp; omega) _
 have b0 : W1.cell? ⟨w.heap.size,0,none⟩ = some (.bool true) := by rw [hW1]; go_simp
 have y0 : W1.cell? ⟨w.heap.size + 1,0,none⟩ = some (.bool true) := by rw [hW1]; go_simp
 have y1 : W1.cell? ⟨w.heap.size + 1,1,none⟩ = some (.slice B bl.length bcap) := by rw [hW1]; go_simp
 have b1 : W1.cell? ⟨w.heap.size,1,none⟩ = some (.slice A al.length acap) := by rw [hW1]; go_simp
 have k2 : W1.heap[w.heap.size + 1 + 1]? = some (.cells #[.bool false,.slice none 0 0] 46) := by rw [hW1]; have := World.alloc_heap_new ((w.alloc (.cells #[.bool true,.slice A al.length acap] 46)).alloc (.cells #[.bool true,.slice B bl.length bcap] 46)) (.cells #[.bool false,.slice none 0 0] 46); simpa using this
 have K2 := Lib.hid k2
 have HB1 := Lib.hid hb1
 have HW1 := Lib.hid hW1
 have HEQ := Lib.hid (equal_ok al bl W1 _ _ (Vt.below ha hb1) (Vt.below hb hb1))
 rw [show (al == bl) = false by simpa using he] at HEQ
 clear he
 clear ha hb hb1 hW1 k2
 go_enter Tryz.func27,Tryz.ntmps27
 go_upto_region 1 with fail
 rw [← HW1.out]
 go_wp2_with (
  go_at_call 25
  refine HEQ.out.mono ?_
  rintro e wq ⟨rfl,hbq⟩
  have HBQ := Lib.hid hbq
  have k2 := (hbq.block (w.heap.size + 1 + 1) (by omega)).trans K2.out
  have K3 := Lib.hid k2
  have r0 := cell_at k2 0 rfl
  have r1 := cell_at k2 1 rfl
  have z0 : wq.frozen? ⟨w.heap.size + 1 + 1,0,none⟩ = false := by simp [World.frozen?,k2]
  have z1 : wq.frozen? ⟨w.heap.size + 1 + 1,1,none⟩ = false := by simp [World.frozen?,k2]
  clear hbq k2)
 (try simp only [Exit.inBlock,Exit.then])
 refine bodyPost_ret (results_cell_tmp_row rfl _ _ (w.heap.size + 1 + 1) 46 #[.bool false,.slice none 0 0] (0,0) _ (.bool false) rfl (by simp [World.setCell,Array.getElem?_modify,K3.out]) Tryz.underlying46 rfl (by kernel_rfl) rfl) rfl ?_
 exact ⟨rfl,((HB1.out.trans (HBQ.out.mono HB1.out.size)).setCell (p := ⟨w.heap.size + 1 + 1,0,none⟩) (by simp; omega) _).setCell (p := ⟨w.heap.size + 1 + 1,1,none⟩) (by simp; omega) _⟩
end Go.Proofs.YtjojbhkgdkcaoaaGreat
namespace Go.Proofs.YtjojbhkgdkcaoaaGreat
open Go Go.RowKit Go.Bh Go.Shelf Go.Proofs.YtjojbhkgdkcaoaaGreatW.PrintLast
def joinE (a b : Ex) : Ex := bif !a.ends then b else bif !b.ends then a else bif a.l == b.l then a else ⟨false,[]⟩
def joinB (a b : Ex) : Bool := !a.ends || (!b.ends || a.l == b.l)
def FV (w : World) (a : Ex) (v : Value) : Prop := ∃ u,v = .agg #[.bool a.ends,u] ∧ Is w a.l u
theorem is_nil (w : World) : Is w [] (.slice none 0 0) := ⟨none,0,rfl,by simp [ints],by simp [maxLen],.inl rfl⟩
theorem join_ok (a b : Ex) (w : World) (va vb : Value) (ha : Is w a.l va) (hb : Is w b.l vb) (h1 : a.l.length ≤ 1000000000) (h2 : b.l.length ≤ 1000000000) :
  Calls Tryz.prog 27 #[.agg #[.bool a.ends,va],.agg #[.bool b.ends,vb]] w fun e w' => ∃ u,e = .returned (.tuple #[.agg #[.bool (joinE a b).ends,u],.bool (joinB a b)]) ∧ Is w' (joinE a b).l u ∧ Below w.heap.size w w' := by
 obtain ⟨ae,al⟩ := a
 obtain ⟨be,bl⟩ := b
 dsimp only at ha hb h1 h2 ⊢
 cases ae
 ·exact join_first be al bl w va vb ha hb h2
 ·cases be
  ·exact join_keep0 al bl w va vb ha hb h1
  ·by_cases h : al = bl
   ·have e1 : joinE ⟨true,al⟩ ⟨true,bl⟩ = ⟨true,al⟩ := by simp [joinE,h]
    have e2 : joinB ⟨true,al⟩ ⟨true,bl⟩ = true := by simp [joinB,h]
    rw [e1,e2]
    exact join_keep1 al bl w va vb ha hb h h1
   ·have h' : (al == bl) = false := by simpa using h
    have e1 : joinE ⟨true,al⟩ ⟨true,bl⟩ = ⟨false,[]⟩ := by simp [joinE,h']
    have e2 : joinB ⟨true,al⟩ ⟨true,bl⟩ = false := by simp [joinB,h']
    rw [e1,e2]
    exact (join_none al bl w va vb ha hb h).mono fun e w' ⟨he,hb⟩ => ⟨_,he,is_nil _,hb⟩
theorem join_at {ae be de dB : Bool} {al bl dl : List Int} {va vb : Value} {w : World} (hd : (⟨de,dl⟩ : Ex) = joinE ⟨ae,al⟩ ⟨be,bl⟩) (hB : dB = joinB ⟨ae,al⟩ ⟨be,bl⟩) (ha : Is w al va) (hb : Is w bl vb) (h1 : al.length ≤ 1000000000) (h2 : bl.length ≤ 1000000000) :
  Calls Tryz.prog 27 #[.agg #[.bool ae,va],.agg #[.bool be,vb]] w fun e w' => ∃ U c,e = .returned (.tuple #[.agg #[.bool de,.slice U dl.length c],.bool dB]) ∧ Hid (Is w' dl (.slice U dl.length c)) ∧ dl.length ≤ c ∧ c ≤ maxLen ∧ Hid (Below w.heap.size w w') := by
 have h := join_ok ⟨ae,al⟩ ⟨be,bl⟩ w va vb ha hb h1 h2
 rw [← hd,← hB] at h
 refine h.mono ?_
 rintro e w' ⟨u,rfl,hu,hb⟩
 obtain ⟨U,c,rfl,g1,g2⟩ := VAt.slice hu
 exact ⟨U,c,rfl,Lib.hid hu,g1,g2,Lib.hid hb⟩
theorem join_len {de ae be : Bool} {dl al bl : List Int} (hd : (⟨de,dl⟩ : Ex) = joinE ⟨ae,al⟩ ⟨be,bl⟩) (h1 : al.length ≤ 100) (h2 : bl.length ≤ 100) : dl.length ≤ 100 := by
 unfold joinE at hd
 cases ae <;> cases be <;> simp only [Bool.not_true,Bool.not_false,cond_true,cond_false] at hd
 ·injection hd with _ h; rw [h]; exact h2
 ·injection hd with _ h; rw [h]; exact h2
 ·injection hd with _ h; rw [h]; exact h1
 ·cases he : (al == bl) <;> simp only [he,cond_true,cond_false] at hd <;> injection hd with _ h <;> rw [h]
  ·simp
  ·exact h1
def sameE (a b : Ex) : Bool := a.ends == b.ends && a.l == b.l
theorem sameFunc_ok (a b : Ex) (w : World) (va vb : Value) (ha : Is w a.l va) (hb : Is w b.l vb) :
  Calls Tryz.prog 28 #[.agg #[.bool a.ends,va],.agg #[.bool b.ends,vb]] w fun e w' => e = .returned (.bool (sameE a b)) ∧ Below w.heap.size w w' := by
 obtain ⟨ae,al⟩ := a
 obtain ⟨be,bl⟩ := b
 dsimp only at ha hb ⊢
 obtain ⟨A,acap,rfl,h1,h2⟩ := VAt.slice ha
 obtain ⟨B,bcap,rfl,h3,h4⟩ := VAt.slice hb
 have hb1 : Below w.heap.size w ((w.alloc (.cells #[.bool ae,.slice A al.length acap] 46)).alloc (.cells #[.bool be,.slice B bl.length bcap] 46)) := ((Below.refl _ w).alloc (Nat.le_refl _) _).alloc (by simp) _
 have HB1 := Lib.hid hb1
 have HE := Lib.hid (equal_ok al bl _ _ _ (Vt.below ha hb1) (Vt.below hb hb1))
 clear ha hb hb1
 cases ae <;> cases be
 ·go_enter Tryz.func28,Tryz.ntmps28
  go_wp2_with (
   go_at_call 25
   refine HE.out.mono ?_
   rintro e w2 ⟨rfl,hb2⟩)
  go_ret
  exact ⟨by simp [sameE],HB1.out.trans (hb2.mono (by simp; omega))⟩
 ·go_enter Tryz.func28,Tryz.ntmps28
  go_wp2_with fail
  go_ret
  exact ⟨by simp [sameE],HB1.out⟩
 ·go_enter Tryz.func28,Tryz.ntmps28
  go_wp2_with fail
  go_ret
  exact ⟨by simp [sameE],HB1.out⟩
 ·go_enter Tryz.func28,Tryz.ntmps28
  go_wp2_with (
   go_at_call 25
   refine HE.out.mono ?_
   rintro e w2 ⟨rfl,hb2⟩)
  go_ret
  exact ⟨by simp [sameE],HB1.out.trans (hb2.mono (by simp; omega))⟩
end Go.Proofs.YtjojbhkgdkcaoaaGreat
namespace Go.Proofs.YtjojbhkgdkcaoaaGreat
open Go Go.RowKit Go.Bh Go.Shelf Go.Proofs.YtjojbhkgdkcaoaaGreatW.PrintLast
theorem joinB_comm (ae be : Bool) (al bl : List Int) : joinB ⟨ae,al⟩ ⟨be,bl⟩ = joinB ⟨be,bl⟩ ⟨ae,al⟩ := by
 cases ae <;> cases be <;> simp [joinB,Bool.beq_comm,BEq.comm]
theorem joinE_comm {ae be : Bool} {al bl : List Int} (ha : ae = false → al = []) (hb : be = false → bl = []) : sameE (joinE ⟨ae,al⟩ ⟨be,bl⟩) (joinE ⟨be,bl⟩ ⟨ae,al⟩) = true := by
 cases ae <;> cases be <;> simp_all [joinE,sameE]
 by_cases h : al = bl
 ·simp [h]
 ·have h1 : (al == bl) = false := by simpa using h
  have h2 : (bl == al) = false := by simpa using fun e => h e.symm
  simp [h1,h2]
theorem join_self (ae : Bool) (al : List Int) : joinB ⟨ae,al⟩ ⟨ae,al⟩ = true ∧ sameE (joinE ⟨ae,al⟩ ⟨ae,al⟩) ⟨ae,al⟩ = true := by
 cases ae <;> simp [joinB,joinE,sameE]
theorem join_noEnd {ae : Bool} {al : List Int} (ha : ae = false → al = []) : joinB ⟨ae,al⟩ ⟨false,[]⟩ = true ∧ sameE (joinE ⟨ae,al⟩ ⟨false,[]⟩) ⟨ae,al⟩ = true := by
 cases ae <;> simp_all [joinB,joinE,sameE]
theorem fits_self (ae : Bool) (al : List Int) : fitsB ⟨ae,al⟩ ⟨ae,al⟩ = true := by cases ae <;> simp [fitsB]
theorem unjoined {ae be : Bool} {al bl : List Int} (h : joinB ⟨ae,al⟩ ⟨be,bl⟩ = false) : fitsB ⟨ae,al⟩ ⟨be,bl⟩ = false ∧ fitsB ⟨be,bl⟩ ⟨ae,al⟩ = false := by
 cases ae <;> cases be <;> simp_all [joinB,fitsB]
 exact fun e => h e.symm
theorem fits_joined {ae be ce : Bool} {al bl cl : List Int} (h : joinB ⟨ae,al⟩ ⟨be,bl⟩ = true) :
  fitsB ⟨ae,al⟩ (joinE ⟨ae,al⟩ ⟨be,bl⟩) = true ∧ fitsB ⟨be,bl⟩ (joinE ⟨ae,al⟩ ⟨be,bl⟩) = true ∧ (fitsB ⟨ce,cl⟩ ⟨ae,al⟩ = true → fitsB ⟨ce,cl⟩ (joinE ⟨ae,al⟩ ⟨be,bl⟩) = true) := by
 cases ae <;> cases be <;> cases ce <;> simp_all [joinB,joinE,fitsB]
theorem unfine {ae be ce : Bool} {al bl cl : List Int} (h1 : joinB ⟨ae,al⟩ ⟨be,bl⟩ = true) (h : joinB ⟨be,bl⟩ ⟨ce,cl⟩ = false) : joinB (joinE ⟨ae,al⟩ ⟨be,bl⟩) ⟨ce,cl⟩ = false := by
 cases ae <;> cases be <;> cases ce <;> simp_all [joinB,joinE]
theorem join_assoc {ae be ce : Bool} {al bl cl : List Int} (ha : ae = false → al = []) (hb : be = false → bl = []) (hc : ce = false → cl = []) (h1 : joinB ⟨ae,al⟩ ⟨be,bl⟩ = true) (h2 : joinB ⟨be,bl⟩ ⟨ce,cl⟩ = true) :
  joinB (joinE ⟨ae,al⟩ ⟨be,bl⟩) ⟨ce,cl⟩ = joinB ⟨ae,al⟩ (joinE ⟨be,bl⟩ ⟨ce,cl⟩) ∧ sameE (joinE (joinE ⟨ae,al⟩ ⟨be,bl⟩) ⟨ce,cl⟩) (joinE ⟨ae,al⟩ (joinE ⟨be,bl⟩ ⟨ce,cl⟩)) = true := by
 cases ae <;> cases be <;> cases ce <;> simp_all [joinB,joinE,sameE]
theorem same_at {r ae be : Bool} {al bl : List Int} {va vb : Value} {w : World} (h : sameE ⟨ae,al⟩ ⟨be,bl⟩ = r) (ha : Is w al va) (hb : Is w bl vb) :
  Calls Tryz.prog 28 #[.agg #[.bool ae,va],.agg #[.bool be,vb]] w fun e w' => e = .returned (.bool r) ∧ Hid (Below w.heap.size w w') := by
 have := sameFunc_ok ⟨ae,al⟩ ⟨be,bl⟩ w va vb ha hb
 rw [h] at this
 exact this.mono fun e w' ⟨h1,h2⟩ => ⟨h1,Lib.hid h2⟩
theorem fits_at {r ae be : Bool} {al bl : List Int} {va vb : Value} {w : World} (h : fitsB ⟨ae,al⟩ ⟨be,bl⟩ = r) (ha : Is w al va) (hb : Is w bl vb) :
  Calls Tryz.prog 29 #[.agg #[.bool ae,va],.agg #[.bool be,vb]] w fun e w' => e = .returned (.bool r) ∧ Hid (Below w.heap.size w w') := by
 have := fits_ok ⟨ae,al⟩ ⟨be,bl⟩ w va vb ha hb
 rw [h] at this
 exact this.mono fun e w' ⟨h1,h2⟩ => ⟨h1,Lib.hid h2⟩
end Go.Proofs.YtjojbhkgdkcaoaaGreat
set_option maxRecDepth 20000
namespace Go.Proofs.YtjojbhkgdkcaoaaGreat
open Go Go.Ev Go.Proofs
def e242_0 : Entry := ⟨242,[.agg [.slice 0 0 2 2 false,.slice 1 0 4 4 false]],[
 .cells [.prim (.string ⟨#[110,97,116]⟩),.prim (.string ⟨#[98,111,111,108]⟩)] 9 [] false,
 .cells [.prim (.string ⟨#[48]⟩),.prim (.slice none 0 0),.prim (.int .i64 (0)),.prim (.string ⟨#[115]⟩),.slice 2 0 1 1 false,.prim (.int .i64 (0)),.prim (.string ⟨#[116,114,117,101]⟩),.prim (.slice none 0 0),.prim (.int .i64 (1)),.prim (.string ⟨#[102,97,108,115,101]⟩),.prim (.slice none 0 0),.prim (.int .i64 (1))] 165 [] false,
 .cells [.prim (.int .i64 (0))] 3 [] false],.int .i64 0⟩
def e119_0 : Entry := ⟨119,[.agg [.slice 0 0 2 2 false,.slice 1 0 4 4 false,.prim (.slice none 0 0),.slice 2 0 2 2 false,.slice 3 0 1 1 false,.prim (.int .i64 (7)),.prim (.int .i64 (0)),.prim (.int .i64 (0)),.prim (.int .i64 (0)),.prim (.int .i64 (0)),.prim (.slice none 0 0),.prim (.slice none 0 0),.prim (.slice none 0 0),.slice 4 0 1 1 false,.prim (.slice none 0 0),.slice 5 0 2 2 false]],[
 .cells [.prim (.string ⟨#[110,97,116]⟩),.prim (.string ⟨#[98,111,111,108]⟩)] 9 [] false,
 .cells [.prim (.string ⟨#[48]⟩),.prim (.slice none 0 0),.prim (.int .i64 (0)),.prim (.string ⟨#[115]⟩),.slice 6 0 1 1 false,.prim (.int .i64 (0)),.prim (.string ⟨#[116,114,117,101]⟩),.prim (.slice none 0 0),.prim (.int .i64 (1)),.prim (.string ⟨#[102,97,108,115,101]⟩),.prim (.slice none 0 0),.prim (.int .i64 (1))] 165 [] false,
 .cells [.prim (.string ⟨#[97]⟩),.prim (.string ⟨#[98]⟩)] 9 [] false,
 .cells [.prim (.string ⟨#[112]⟩),.prim (.int .i64 (1)),.slice 7 0 1 1 false,.prim (.bool true),.slice 8 0 1 1 false,.prim (.int .i64 (3)),.prim (.int .i64 (0)),.prim (.int .i64 (0)),.prim (.int .i64 (0)),.prim (.int .i64 (-1)),.prim (.slice none 0 0),.slice 9 0 1 1 false,.slice 10 0 1 1 false,.prim (.slice none 0 0),.prim (.slice none 0 0),.slice 11 0 1 1 false] 105 [] false,
 .cells [.prim (.int .i64 (0))] 3 [] false,
 .cells [.prim (.int .i64 (12)),.prim (.int .i64 (0)),.prim (.int .i64 (0)),.prim (.int .i64 (0)),.prim (.int .i64 (0)),.slice 12 0 1 1 false,.prim (.slice none 0 0),.prim (.slice none 0 0),.prim (.slice none 0 0),.slice 13 0 1 1 false,.prim (.slice none 0 0),.prim (.int .i64 (3)),.prim (.int .i64 (0)),.prim (.int .i64 (1)),.prim (.int .i64 (0)),.prim (.int .i64 (-1)),.prim (.slice none 0 0),.slice 14 0 1 1 false,.prim (.slice none 0 0),.prim (.slice none 0 0),.prim (.slice none 0 0),.slice 15 0 1 1 false] 28 [] false,
 .cells [.prim (.int .i64 (0))] 3 [] false,
 .cells [.prim (.int .i64 (0))] 3 [] false,
 .cells [.prim (.int .i64 (0))] 3 [] false,
 .cells [.prim (.bool true),.prim (.int .i64 (0)),.prim (.int .i64 (0)),.prim (.int .i64 (0)),.prim (.slice none 0 0)] 68 [] false,
 .cells [.prim (.int .i64 (1)),.prim (.int .i64 (1)),.prim (.slice none 0 0),.prim (.int .i64 (1)),.prim (.int .i64 (0)),.prim (.slice none 0 0)] 115 [] false,
 .cells [.prim (.int .i64 (2)),.prim (.int .i64 (0)),.prim (.int .i64 (0)),.prim (.int .i64 (0)),.prim (.int .i64 (0)),.prim (.slice none 0 0),.slice 16 0 1 0 true,.prim (.slice none 0 0),.prim (.slice none 0 0),.prim (.slice none 0 0),.prim (.slice none 0 0)] 28 [] false,
 .cells [.prim (.int .i64 (0))] 3 [] false,
 .cells [.prim (.int .i64 (2)),.prim (.int .i64 (0)),.prim (.slice none 0 0)] 62 [] false,
 .cells [.prim (.bool false),.prim (.int .i64 (0)),.prim (.int .i64 (1)),.prim (.int .i64 (0)),.prim (.slice none 0 0)] 68 [] false,
 .cells [.prim (.int .i64 (1)),.prim (.int .i64 (0)),.prim (.int .i64 (0)),.prim (.int .i64 (0)),.prim (.int .i64 (0)),.prim (.slice none 0 0),.prim (.slice none 0 0),.prim (.slice none 0 0),.prim (.slice none 0 0),.prim (.slice none 0 0),.prim (.slice none 0 0)] 28 [] false,
 .cells [.prim (.bool false),.prim (.int .i64 (0)),.prim (.int .i64 (1)),.prim (.int .i64 (1)),.prim (.slice none 0 0)] 68 [] false],.bool true⟩
def e63_0 : Entry := ⟨63,[.agg [.slice 0 0 2 2 false,.slice 1 0 4 4 false,.prim (.slice none 0 0),.slice 2 0 2 2 false,.slice 3 0 1 1 false,.prim (.int .i64 (7)),.prim (.int .i64 (0)),.prim (.int .i64 (0)),.prim (.int .i64 (0)),.prim (.int .i64 (0)),.prim (.slice none 0 0),.prim (.slice none 0 0),.prim (.slice none 0 0),.slice 4 0 1 1 false,.prim (.slice none 0 0),.slice 5 0 2 2 false]],[
 .cells [.prim (.string ⟨#[110,97,116]⟩),.prim (.string ⟨#[98,111,111,108]⟩)] 9 [] false,
 .cells [.prim (.string ⟨#[48]⟩),.prim (.slice none 0 0),.prim (.int .i64 (0)),.prim (.string ⟨#[115]⟩),.slice 6 0 1 1 false,.prim (.int .i64 (0)),.prim (.string ⟨#[116,114,117,101]⟩),.prim (.slice none 0 0),.prim (.int .i64 (1)),.prim (.string ⟨#[102,97,108,115,101]⟩),.prim (.slice none 0 0),.prim (.int .i64 (1))] 165 [] false,
 .cells [.prim (.string ⟨#[97]⟩),.prim (.string ⟨#[98]⟩)] 9 [] false,
 .cells [.prim (.string ⟨#[112]⟩),.prim (.int .i64 (1)),.slice 7 0 1 1 false,.prim (.bool true),.slice 8 0 1 1 false,.prim (.int .i64 (3)),.prim (.int .i64 (0)),.prim (.int .i64 (0)),.prim (.int .i64 (0)),.prim (.int .i64 (-1)),.prim (.slice none 0 0),.slice 9 0 1 1 false,.slice 10 0 1 1 false,.prim (.slice none 0 0),.prim (.slice none 0 0),.slice 11 0 1 1 false] 105 [] false,
 .cells [.prim (.int .i64 (0))] 3 [] false,
 .cells [.prim (.int .i64 (12)),.prim (.int .i64 (0)),.prim (.int .i64 (0)),.prim (.int .i64 (0)),.prim (.int .i64 (0)),.slice 12 0 1 1 false,.prim (.slice none 0 0),.prim (.slice none 0 0),.prim (.slice none 0 0),.slice 13 0 1 1 false,.prim (.slice none 0 0),.prim (.int .i64 (3)),.prim (.int .i64 (0)),.prim (.int .i64 (1)),.prim (.int .i64 (0)),.prim (.int .i64 (-1)),.prim (.slice none 0 0),.slice 14 0 1 1 false,.prim (.slice none 0 0),.prim (.slice none 0 0),.prim (.slice none 0 0),.slice 15 0 1 1 false] 28 [] false,
 .cells [.prim (.int .i64 (0))] 3 [] false,
 .cells [.prim (.int .i64 (0))] 3 [] false,
 .cells [.prim (.int .i64 (0))] 3 [] false,
 .cells [.prim (.bool true),.prim (.int .i64 (0)),.prim (.int .i64 (0)),.prim (.int .i64 (0)),.prim (.slice none 0 0)] 68 [] false,
 .cells [.prim (.int .i64 (1)),.prim (.int .i64 (1)),.prim (.slice none 0 0),.prim (.int .i64 (1)),.prim (.int .i64 (0)),.prim (.slice none 0 0)] 115 [] false,
 .cells [.prim (.int .i64 (2)),.prim (.int .i64 (0)),.prim (.int .i64 (0)),.prim (.int .i64 (0)),.prim (.int .i64 (0)),.prim (.slice none 0 0),.slice 16 0 1 0 true,.prim (.slice none 0 0),.prim (.slice none 0 0),.prim (.slice none 0 0),.prim (.slice none 0 0)] 28 [] false,
 .cells [.prim (.int .i64 (0))] 3 [] false,
 .cells [.prim (.int .i64 (2)),.prim (.int .i64 (0)),.prim (.slice none 0 0)] 62 [] false,
 .cells [.prim (.bool false),.prim (.int .i64 (0)),.prim (.int .i64 (1)),.prim (.int .i64 (0)),.prim (.slice none 0 0)] 68 [] false,
 .cells [.prim (.int .i64 (1)),.prim (.int .i64 (0)),.prim (.int .i64 (0)),.prim (.int .i64 (0)),.prim (.int .i64 (0)),.prim (.slice none 0 0),.prim (.slice none 0 0),.prim (.slice none 0 0),.prim (.slice none 0 0),.prim (.slice none 0 0),.prim (.slice none 0 0)] 28 [] false,
 .cells [.prim (.bool false),.prim (.int .i64 (0)),.prim (.int .i64 (1)),.prim (.int .i64 (1)),.prim (.slice none 0 0)] 68 [] false],.int .i64 0⟩
def e69_0 : Entry := ⟨69,[.prim (.int .i64 (2)),.prim (.slice none 0 0),.agg [.prim (.int .i64 (7)),.prim (.int .i64 (0)),.prim (.int .i64 (0)),.prim (.int .i64 (0)),.prim (.int .i64 (0)),.prim (.slice none 0 0),.prim (.slice none 0 0),.prim (.slice none 0 0),.slice 0 0 1 1 false,.prim (.slice none 0 0),.slice 1 0 2 2 false],.agg [.prim (.bool false),.prim (.slice none 0 0)],.prim (.int .i64 (0))],[
 .cells [.prim (.int .i64 (0))] 3 [] false,
 .cells [.prim (.int .i64 (12)),.prim (.int .i64 (0)),.prim (.int .i64 (0)),.prim (.int .i64 (0)),.prim (.int .i64 (0)),.slice 2 0 1 1 false,.prim (.slice none 0 0),.prim (.slice none 0 0),.prim (.slice none 0 0),.slice 3 0 1 1 false,.prim (.slice none 0 0),.prim (.int .i64 (3)),.prim (.int .i64 (0)),.prim (.int .i64 (1)),.prim (.int .i64 (0)),.prim (.int .i64 (-1)),.prim (.slice none 0 0),.slice 4 0 1 1 false,.prim (.slice none 0 0),.prim (.slice none 0 0),.prim (.slice none 0 0),.slice 5 0 1 1 false] 28 [] false,
 .cells [.prim (.int .i64 (0))] 3 [] false,
 .cells [.prim (.int .i64 (2)),.prim (.int .i64 (0)),.prim (.slice none 0 0)] 62 [] false,
 .cells [.prim (.bool false),.prim (.int .i64 (0)),.prim (.int .i64 (1)),.prim (.int .i64 (0)),.prim (.slice none 0 0)] 68 [] false,
 .cells [.prim (.int .i64 (1)),.prim (.int .i64 (0)),.prim (.int .i64 (0)),.prim (.int .i64 (0)),.prim (.int .i64 (0)),.prim (.slice none 0 0),.prim (.slice none 0 0),.prim (.slice none 0 0),.prim (.slice none 0 0),.prim (.slice none 0 0),.prim (.slice none 0 0)] 28 [] false],.bool true⟩
def e69_1 : Entry := ⟨69,[.prim (.int .i64 (1)),.slice 0 0 1 1 false,.agg [.prim (.int .i64 (3)),.prim (.int .i64 (0)),.prim (.int .i64 (0)),.prim (.int .i64 (0)),.prim (.int .i64 (-1)),.prim (.slice none 0 0),.slice 1 0 1 1 false,.slice 2 0 1 1 false,.prim (.slice none 0 0),.prim (.slice none 0 0),.slice 3 0 1 1 false],.agg [.prim (.bool true),.slice 4 0 1 1 false],.prim (.int .i64 (0))],[
 .cells [.prim (.int .i64 (0))] 3 [] false,
 .cells [.prim (.bool true),.prim (.int .i64 (0)),.prim (.int .i64 (0)),.prim (.int .i64 (0)),.prim (.slice none 0 0)] 68 [] false,
 .cells [.prim (.int .i64 (1)),.prim (.int .i64 (1)),.prim (.slice none 0 0),.prim (.int .i64 (1)),.prim (.int .i64 (0)),.prim (.slice none 0 0)] 115 [] false,
 .cells [.prim (.int .i64 (2)),.prim (.int .i64 (0)),.prim (.int .i64 (0)),.prim (.int .i64 (0)),.prim (.int .i64 (0)),.prim (.slice none 0 0),.slice 5 0 1 0 true,.prim (.slice none 0 0),.prim (.slice none 0 0),.prim (.slice none 0 0),.prim (.slice none 0 0)] 28 [] false,
 .cells [.prim (.int .i64 (0))] 3 [] false,
 .cells [.prim (.bool false),.prim (.int .i64 (0)),.prim (.int .i64 (1)),.prim (.int .i64 (1)),.prim (.slice none 0 0)] 68 [] false],.bool true⟩
def e69_2 : Entry := ⟨69,[.prim (.int .i64 (1)),.prim (.slice none 0 0),.agg [.prim (.int .i64 (3)),.prim (.int .i64 (0)),.prim (.int .i64 (0)),.prim (.int .i64 (0)),.prim (.int .i64 (-1)),.prim (.slice none 0 0),.slice 0 0 1 1 false,.slice 1 0 1 1 false,.prim (.slice none 0 0),.prim (.slice none 0 0),.slice 2 0 1 1 false],.agg [.prim (.bool false),.prim (.slice none 0 0)],.prim (.int .i64 (6))],[
 .cells [.prim (.bool true),.prim (.int .i64 (0)),.prim (.int .i64 (0)),.prim (.int .i64 (0)),.prim (.slice none 0 0)] 68 [] false,
 .cells [.prim (.int .i64 (1)),.prim (.int .i64 (1)),.prim (.slice none 0 0),.prim (.int .i64 (1)),.prim (.int .i64 (0)),.prim (.slice none 0 0)] 115 [] false,
 .cells [.prim (.int .i64 (2)),.prim (.int .i64 (0)),.prim (.int .i64 (0)),.prim (.int .i64 (0)),.prim (.int .i64 (0)),.prim (.slice none 0 0),.slice 3 0 1 0 true,.prim (.slice none 0 0),.prim (.slice none 0 0),.prim (.slice none 0 0),.prim (.slice none 0 0)] 28 [] false,
 .cells [.prim (.bool false),.prim (.int .i64 (0)),.prim (.int .i64 (1)),.prim (.int .i64 (1)),.prim (.slice none 0 0)] 68 [] false],.bool true⟩
def e69_3 : Entry := ⟨69,[.prim (.int .i64 (0)),.slice 0 0 1 1 false,.agg [.prim (.int .i64 (3)),.prim (.int .i64 (0)),.prim (.int .i64 (0)),.prim (.int .i64 (0)),.prim (.int .i64 (-1)),.prim (.slice none 0 0),.slice 1 0 1 1 false,.slice 2 0 1 1 false,.prim (.slice none 0 0),.prim (.slice none 0 0),.slice 3 0 1 1 false],.agg [.prim (.bool false),.prim (.slice none 0 0)],.prim (.int .i64 (6))],[
 .cells [.prim (.int .i64 (0))] 3 [] false,
 .cells [.prim (.bool true),.prim (.int .i64 (0)),.prim (.int .i64 (0)),.prim (.int .i64 (0)),.prim (.slice none 0 0)] 68 [] false,
 .cells [.prim (.int .i64 (1)),.prim (.int .i64 (1)),.prim (.slice none 0 0),.prim (.int .i64 (1)),.prim (.int .i64 (0)),.prim (.slice none 0 0)] 115 [] false,
 .cells [.prim (.int .i64 (2)),.prim (.int .i64 (0)),.prim (.int .i64 (0)),.prim (.int .i64 (0)),.prim (.int .i64 (0)),.prim (.slice none 0 0),.slice 4 0 1 0 true,.prim (.slice none 0 0),.prim (.slice none 0 0),.prim (.slice none 0 0),.prim (.slice none 0 0)] 28 [] false,
 .cells [.prim (.bool false),.prim (.int .i64 (0)),.prim (.int .i64 (1)),.prim (.int .i64 (1)),.prim (.slice none 0 0)] 68 [] false],.bool true⟩
def e69_4 : Entry := ⟨69,[.prim (.int .i64 (0)),.prim (.slice none 0 0),.agg [.prim (.int .i64 (7)),.prim (.int .i64 (0)),.prim (.int .i64 (0)),.prim (.int .i64 (0)),.prim (.int .i64 (0)),.prim (.slice none 0 0),.prim (.slice none 0 0),.prim (.slice none 0 0),.slice 0 0 1 1 false,.prim (.slice none 0 0),.slice 1 0 2 2 false],.agg [.prim (.bool true),.slice 2 0 1 1 false],.prim (.int .i64 (0))],[
 .cells [.prim (.int .i64 (0))] 3 [] false,
 .cells [.prim (.int .i64 (1)),.prim (.int .i64 (0)),.prim (.int .i64 (0)),.prim (.int .i64 (0)),.prim (.int .i64 (0)),.prim (.slice none 0 0),.prim (.slice none 0 0),.prim (.slice none 0 0),.prim (.slice none 0 0),.prim (.slice none 0 0),.prim (.slice none 0 0),.prim (.int .i64 (2)),.prim (.int .i64 (0)),.prim (.int .i64 (0)),.prim (.int .i64 (0)),.prim (.int .i64 (0)),.prim (.slice none 0 0),.slice 3 0 1 0 true,.prim (.slice none 0 0),.prim (.slice none 0 0),.prim (.slice none 0 0),.prim (.slice none 0 0)] 28 [] false,
 .cells [.prim (.int .i64 (0))] 3 [] false,
 .cells [.prim (.bool false),.prim (.int .i64 (0)),.prim (.int .i64 (1)),.prim (.int .i64 (0)),.prim (.slice none 0 0)] 68 [] false],.bool true⟩
def e69_5 : Entry := ⟨69,[.prim (.int .i64 (0)),.prim (.slice none 0 0),.agg [.prim (.int .i64 (7)),.prim (.int .i64 (0)),.prim (.int .i64 (0)),.prim (.int .i64 (0)),.prim (.int .i64 (0)),.prim (.slice none 0 0),.prim (.slice none 0 0),.prim (.slice none 0 0),.slice 0 0 1 1 false,.prim (.slice none 0 0),.slice 1 0 2 2 false],.agg [.prim (.bool false),.prim (.slice none 0 0)],.prim (.int .i64 (6))],[
 .cells [.prim (.int .i64 (0))] 3 [] false,
 .cells [.prim (.int .i64 (2)),.prim (.int .i64 (0)),.prim (.int .i64 (0)),.prim (.int .i64 (0)),.prim (.int .i64 (0)),.prim (.slice none 0 0),.slice 2 0 1 0 true,.prim (.slice none 0 0),.prim (.slice none 0 0),.prim (.slice none 0 0),.prim (.slice none 0 0),.prim (.int .i64 (1)),.prim (.int .i64 (0)),.prim (.int .i64 (0)),.prim (.int .i64 (0)),.prim (.int .i64 (0)),.prim (.slice none 0 0),.prim (.slice none 0 0),.prim (.slice none 0 0),.prim (.slice none 0 0),.prim (.slice none 0 0),.prim (.slice none 0 0)] 28 [] false,
 .cells [.prim (.bool false),.prim (.int .i64 (0)),.prim (.int .i64 (2)),.prim (.int .i64 (2)),.prim (.slice none 0 0)] 68 [] false],.bool true⟩
def e69_6 : Entry := ⟨69,[.prim (.int .i64 (0)),.prim (.slice none 0 0),.agg [.prim (.int .i64 (4)),.prim (.int .i64 (0)),.prim (.int .i64 (0)),.prim (.int .i64 (0)),.prim (.int .i64 (0)),.prim (.slice none 0 0),.prim (.slice none 0 0),.prim (.slice none 0 0),.prim (.slice none 0 0),.prim (.slice none 0 0),.slice 0 0 2 2 false],.agg [.prim (.bool true),.prim (.slice none 0 0)],.prim (.int .i64 (0))],[
 .cells [.prim (.int .i64 (2)),.prim (.int .i64 (0)),.prim (.int .i64 (0)),.prim (.int .i64 (0)),.prim (.int .i64 (0)),.prim (.slice none 0 0),.prim (.slice none 0 0),.prim (.slice none 0 0),.prim (.slice none 0 0),.prim (.slice none 0 0),.prim (.slice none 0 0),.prim (.int .i64 (1)),.prim (.int .i64 (0)),.prim (.int .i64 (0)),.prim (.int .i64 (0)),.prim (.int .i64 (0)),.prim (.slice none 0 0),.prim (.slice none 0 0),.prim (.slice none 0 0),.prim (.slice none 0 0),.prim (.slice none 0 0),.prim (.slice none 0 0)] 28 [] false],.bool true⟩
def e69_7 : Entry := ⟨69,[.prim (.int .i64 (0)),.prim (.slice none 0 0),.agg [.prim (.int .i64 (5)),.prim (.int .i64 (0)),.prim (.int .i64 (0)),.prim (.int .i64 (0)),.prim (.int .i64 (0)),.prim (.slice none 0 0),.prim (.slice none 0 0),.prim (.slice none 0 0),.prim (.slice none 0 0),.prim (.slice none 0 0),.slice 0 0 2 2 false],.agg [.prim (.bool false),.prim (.slice none 0 0)],.prim (.int .i64 (6))],[
 .cells [.prim (.int .i64 (2)),.prim (.int .i64 (0)),.prim (.int .i64 (0)),.prim (.int .i64 (0)),.prim (.int .i64 (0)),.prim (.slice none 0 0),.slice 1 0 1 0 true,.prim (.slice none 0 0),.prim (.slice none 0 0),.prim (.slice none 0 0),.prim (.slice none 0 0),.prim (.int .i64 (2)),.prim (.int .i64 (0)),.prim (.int .i64 (0)),.prim (.int .i64 (0)),.prim (.int .i64 (0)),.prim (.slice none 0 0),.slice 2 0 1 0 true,.prim (.slice none 0 0),.prim (.slice none 0 0),.prim (.slice none 0 0),.prim (.slice none 0 0)] 28 [] false,
 .cells [.prim (.bool false),.prim (.int .i64 (0)),.prim (.int .i64 (2)),.prim (.int .i64 (0)),.prim (.slice none 0 0)] 68 [] false,
 .cells [.prim (.bool false),.prim (.int .i64 (0)),.prim (.int .i64 (2)),.prim (.int .i64 (2)),.prim (.slice none 0 0)] 68 [] false],.bool true⟩
def e69_8 : Entry := ⟨69,[.prim (.int .i64 (0)),.prim (.slice none 0 0),.agg [.prim (.int .i64 (5)),.prim (.int .i64 (0)),.prim (.int .i64 (0)),.prim (.int .i64 (0)),.prim (.int .i64 (0)),.prim (.slice none 0 0),.prim (.slice none 0 0),.prim (.slice none 0 0),.prim (.slice none 0 0),.prim (.slice none 0 0),.slice 0 0 2 2 false],.agg [.prim (.bool false),.prim (.slice none 0 0)],.prim (.int .i64 (0))],[
 .cells [.prim (.int .i64 (2)),.prim (.int .i64 (0)),.prim (.int .i64 (0)),.prim (.int .i64 (0)),.prim (.int .i64 (0)),.prim (.slice none 0 0),.slice 1 0 1 0 true,.prim (.slice none 0 0),.prim (.slice none 0 0),.prim (.slice none 0 0),.prim (.slice none 0 0),.prim (.int .i64 (1)),.prim (.int .i64 (0)),.prim (.int .i64 (0)),.prim (.int .i64 (0)),.prim (.int .i64 (0)),.prim (.slice none 0 0),.prim (.slice none 0 0),.prim (.slice none 0 0),.prim (.slice none 0 0),.prim (.slice none 0 0),.prim (.slice none 0 0)] 28 [] false,
 .cells [.prim (.bool false),.prim (.int .i64 (0)),.prim (.int .i64 (2)),.prim (.int .i64 (0)),.prim (.slice none 0 0)] 68 [] false],.bool true⟩
def m0 : List Entry := []
theorem ke242_0 : entryOK Tryz.prog (memoAll m0) 1000000 e242_0 = true := by kernel_rfl
def m1 : List Entry := e242_0 :: m0
theorem ke119_0 : entryOK Tryz.prog (memoAll m1) 1000000 e119_0 = true := by kernel_rfl
def m2 : List Entry := e119_0 :: m1
theorem ke63_0 : entryOK Tryz.prog (memoAll m2) 1000000 e63_0 = true := by kernel_rfl
def m3 : List Entry := e63_0 :: m2
theorem ke69_0 : entryOK Tryz.prog (memoAll m3) 1000000 e69_0 = true := by kernel_rfl
def m4 : List Entry := e69_0 :: m3
theorem ke69_1 : entryOK Tryz.prog (memoAll m4) 1000000 e69_1 = true := by kernel_rfl
def m5 : List Entry := e69_1 :: m4
theorem ke69_2 : entryOK Tryz.prog (memoAll m5) 1000000 e69_2 = true := by kernel_rfl
def m6 : List Entry := e69_2 :: m5
theorem ke69_3 : entryOK Tryz.prog (memoAll m6) 1000000 e69_3 = true := by kernel_rfl
def m7 : List Entry := e69_3 :: m6
theorem ke69_4 : entryOK Tryz.prog (memoAll m7) 1000000 e69_4 = true := by kernel_rfl
def m8 : List Entry := e69_4 :: m7
theorem ke69_5 : entryOK Tryz.prog (memoAll m8) 1000000 e69_5 = true := by kernel_rfl
def m9 : List Entry := e69_5 :: m8
theorem ke69_6 : entryOK Tryz.prog (memoAll m9) 1000000 e69_6 = true := by kernel_rfl
def m10 : List Entry := e69_6 :: m9
theorem ke69_7 : entryOK Tryz.prog (memoAll m10) 1000000 e69_7 = true := by kernel_rfl
def m11 : List Entry := e69_7 :: m10
theorem ke69_8 : entryOK Tryz.prog (memoAll m11) 1000000 e69_8 = true := by kernel_rfl
def m12 : List Entry := e69_8 :: m11
theorem mixed_all : Tryz.prog.follows .mixedOrders = true := Checked.mixed Tryz.checked
theorem memo0 : MemoOK Tryz.prog (memoAll m0) := memo_nil
theorem memo1 : MemoOK Tryz.prog (memoAll m1) := memo_cons mixed_all memo0 ke242_0
theorem memo2 : MemoOK Tryz.prog (memoAll m2) := memo_cons mixed_all memo1 ke119_0
theorem memo3 : MemoOK Tryz.prog (memoAll m3) := memo_cons mixed_all memo2 ke63_0
theorem memo4 : MemoOK Tryz.prog (memoAll m4) := memo_cons mixed_all memo3 ke69_0
theorem memo5 : MemoOK Tryz.prog (memoAll m5) := memo_cons mixed_all memo4 ke69_1
theorem memo6 : MemoOK Tryz.prog (memoAll m6) := memo_cons mixed_all memo5 ke69_2
theorem memo7 : MemoOK Tryz.prog (memoAll m7) := memo_cons mixed_all memo6 ke69_3
theorem memo8 : MemoOK Tryz.prog (memoAll m8) := memo_cons mixed_all memo7 ke69_4
theorem memo9 : MemoOK Tryz.prog (memoAll m9) := memo_cons mixed_all memo8 ke69_5
theorem memo10 : MemoOK Tryz.prog (memoAll m10) := memo_cons mixed_all memo9 ke69_6
theorem memo11 : MemoOK Tryz.prog (memoAll m11) := memo_cons mixed_all memo10 ke69_7
theorem memo12 : MemoOK Tryz.prog (memoAll m12) := memo_cons mixed_all memo11 ke69_8
end Go.Proofs.YtjojbhkgdkcaoaaGreat
set_option maxRecDepth 20000
namespace Go.Proofs.YtjojbhkgdkcaoaaGreat
open Go Go.Ev Go.Proofs
def isTrue : Option LV → Bool
 | some (.prim (.bool true)) => true
 | _ => false
theorem isTrue_eq {o : Option LV} (h : isTrue o = true) : o = some (.prim (.bool true)) := by
 unfold isTrue at h
 split at h
 ·rfl
 ·cases h
theorem ksane : isTrue (evalTop Tryz.prog (memoAll m12) 1000000 15 []) = true := by kernel_rfl
theorem sane_ok (w : World) : Calls Tryz.prog 15 #[] w fun e w' => e = .returned (.bool true) ∧ Go.RowKit.Below w.heap.size w w' := top_ok (args := []) mixed_all memo12 (isTrue_eq ksane) w
end Go.Proofs.YtjojbhkgdkcaoaaGreat
