/- A part of the proof: texts of this session, joined. -/
import Derived.Test.YtclkokkppgchfaaPart4
import Derived.OwnWalk
import Derived.Laws.Rows
import Derived.Laws.EntriesVeiled
import Derived.Test.YtclkokkppgchfaaShort
set_option linter.unusedSimpArgs false
set_option linter.unusedVariables false
set_option maxHeartbeats 3200000
set_option maxRecDepth 100000
namespace Go.Proofs.Ytclkokkppgchfaa
open Go.RowKit Go.Ng Go.Proofs.YtclkokkppgchfaaW.PrintLast
def freedItem (it : ItemM) (n : Int) : ItemM := { it with through := addT n it.through,queue := others n it.queue }
def freedM (P : PlaceM) (m : Post) (j : Nat) (it : ItemM) : PlaceM :=
 if it.held = true ∧ it.lk.prop = m.prop then
  match others m.prop it.queue with
  | [] => P.setItem j { freedItem it m.prop with held := false,lk := ⟨0,0⟩ }
  | a :: l => grantM P j { freedItem it m.prop with held := false,lk := ⟨0,0⟩,queue := others a.prop (a :: l) } j a
 else P.setItem j (freedItem it m.prop)
theorem set_set (P : PlaceM) (j : Nat) (x y : ItemM) : (P.setItem j x).setItem j y = P.setItem j y := by simp [PlaceM.setItem]
theorem grant_set (P : PlaceM) (j : Nat) (x y : ItemM) (n : Int) (a : Asker) : grantM (P.setItem j x) j y n a = grantM P j y n a := by simp [grantM,set_set]
theorem item_set {P : PlaceM} {j : Nat} {x y : ItemM} (h : P.items[j]? = some (some x)) : (P.setItem j y).items[j]? = some (some y) := by
 have := (List.getElem?_eq_some_iff.1 h).1
 simp [PlaceM.setItem,this]
theorem freed_ok {tag : Nat → Tag} {k j : Nat} {P : PlaceM} {it : ItemM} {w : World} (m : Post) (hP : PRep tag k w P) (hok : TagOk tag w) (hj : P.items[j]? = some (some it)) (hmj : m.item = j)
  (hn : P.out.length ≤ 100000) (hq : it.queue.length ≤ 100000) :
  Calls Try.prog 114 #[.pointer (some ⟨P.ptr,0,none⟩),Post.val m] w fun e w' => e = .returned (.tuple #[]) ∧
   ∃ tag',PRep tag' k w' (freedM P m j it) ∧ Fr (fun t => t.1 = k) tag tag' w w' := by
 obtain ⟨mk,ms,md,mp,mi,mv⟩ := m
 simp only at hmj
 subst hmj
 obtain ⟨sv,iv,ov,cv,hc,h2,h3,h4,h5⟩ := hP.cells
 obtain ⟨b,cap,rfl,hl1,hl2,hcell⟩ := PRep.item_cell h3 hj
 unfold maxLen at hl2
 have hjl := (List.getElem?_eq_some_iff.1 hj).1
 have c2 : w.cell? ⟨P.ptr,2,none⟩ = some (.slice (some ⟨b,0,none⟩) P.items.length cap) := cell_of hc 2
 have HI := Lib.hid (hP.items j it hj)
 obtain ⟨qv,hic,hqr⟩ := HI.out.cells
 have t5 : w.cell? ⟨it.ptr,5,none⟩ = some (.map (some it.tm)) := cell_of hic 5
 have hpl := lt_of_heap hc
 have hil := lt_of_heap hic
 have hbl := World.block_lt_of_cell? w _ hcell
 have i1 : (0 : Int) ≤ (j : Int) := by omega
 have i2 : (j : Int) < (P.items.length : Int) := by omega
 have HP := Lib.hid hP
 have HJ := Lib.hid hj
 have hk0 := hP.k0
 clear hP hc h2 h3 h4 h5 hj hic hqr
 unfold Post.val
 have hne : ∀ r i,tag w.heap.size ≠ (k,r,i) := fun r i => new_ne hok hk0
 go_enter Try.func114,Try.ntmps114
 go_wp2_with fail
 go_quiet (fail)
 obtain ⟨w0,hw0⟩ : ∃ w0,w0 = (w.alloc (.cells #[.int .i64 mk,.int .i64 ms,.int .i64 md,.int .i64 mp,.int .i64 (j : Int),.int .i64 mv] 49)).drewN nq := ⟨_,rfl⟩
 rw [← hw0]
 have hF0 : Fr (fun _ => False) tag tag w w0 := by rw [hw0]; exact ((Fr.refl hok).al _).dN _
 have e3 : w0.cell? ⟨w.heap.size,3,none⟩ = some (.int .i64 mp) := by rw [hw0]; go_simp
 have e4 : w0.cell? ⟨w.heap.size,4,none⟩ = some (.int .i64 (j : Int)) := by rw [hw0]; go_simp
 have s5 : w0.cell? ⟨it.ptr,5,none⟩ = some (.map (some it.tm)) := hF0.cellF t5
 clear hw0 t5 c2 hcell
 have HI0 := Lib.hid (HI.out.fr hF0 (fun x => x) (fun x => x) (fun x => x))
 obtain ⟨w1,hrun,⟨o,ho⟩,hm1⟩ := MapIs.add (tag := tag) (tag' := tag) (HI0.out.map.fr (Fr.drew (S:=fun _ => False) hF0.dom) (fun x => x)) mp
 have hF1 : Fr (· = (k,9,(j : Int))) tag tag w0 w1 := (Fr.drew hF0.dom).trans (by rw [ho]; exact Fr.setObj hF0.dom.drew HI0.out.ttm o)
 clear ho
 have HR := Lib.hid hrun
 clear hrun
 go_wp2_with fail
 refine start_ (n:=7) (S:=fun w' => w'.cell? ⟨it.ptr,5,none⟩ = some (.map (some it.tm)) ∧ w'.cell? ⟨w.heap.size,3,none⟩ = some (.int .i64 mp)) (ds := [6]) #[f_,f_,f_,f_,f_,f_,f_] (by kernel_rfl) rfl rfl ⟨by go_simp,by go_simp⟩ (fun hHeld => ?_)
 refine pv_ (i:=0) (N:=some 14) (v:=?_) (a':=?_) rfl rfl (by kernel_rfl) (fun _ _ _ h => h) (Or.inl ⟨by rfl,?_⟩) ?_ ?_
 rotate_left;intro w';go_simp;with_reducible rfl;rotate_left;simp only [Act.put,sA_,sB_,sC_,i64_w,i32_w];rfl
 refine pv_ (i:=1) (N:=some 15) (v:=?_) (a':=?_) rfl rfl (by kernel_rfl) (fun _ _ _ h => h) (Or.inl ⟨by rfl,?_⟩) ?_ ?_
 rotate_left;intro w';go_simp;with_reducible rfl;rotate_left;simp only [Act.put,sA_,sB_,sC_,i64_w,i32_w];rfl
 refine pv_ (i:=2) (N:=some 16) (v:=?_) (a':=?_) rfl rfl (by kernel_rfl) (fun _ _ _ h => h) (Or.inl ⟨by rfl,?_⟩) ?_ ?_
 rotate_left;intro w';go_simp;with_reducible rfl;rotate_left;simp only [Act.put,sA_,sB_,sC_,i64_w,i32_w];rfl
 refine pv_ (i:=4) (N:=some 18) (v:=?_) (a':=?_) rfl rfl (by kernel_rfl) (fun _ _ _ h => h) (Or.inl ⟨by rfl,?_⟩) ?_ ?_
 rotate_left;intro w';go_simp;with_reducible rfl;rotate_left;simp only [Act.put,sA_,sB_,sC_,i64_w,i32_w];rfl
 refine tv_ (i:=3) (N:=some 17) (v:=?_) (a':=?_) rfl rfl (by kernel_rfl) (fun _ _ _ h => h) (Or.inl ⟨by rfl,?_⟩) hHeld ?_ ?_
 rotate_left;rintro w' ⟨s0,s1⟩;go_simp;with_reducible rfl;rotate_left;simp only [Act.put,sA_,sB_,sC_,i64_w,i32_w];rfl
 refine tv_ (i:=5) (N:=some 19) (v:=?_) (a':=?_) rfl rfl (by kernel_rfl) (fun _ _ _ h => h) (Or.inl ⟨by rfl,?_⟩) hHeld ?_ ?_
 rotate_left;rintro w' ⟨s0,s1⟩;go_simp;with_reducible rfl;rotate_left;simp only [Act.put,sA_,sB_,sC_,i64_w,i32_w];rfl
 refine last_ (i:=6) (N:=none) #[t_,t_,t_,t_,t_,t_,t_] rfl rfl (by kernel_rfl) (by decide) (fun K hK => ?_)
 refine put_arm (T := 66) (by rfl) rfl (.tmp 17) (.tmp 19) (.const (.bool true)) rfl (by rfl) (by rfl) (by rfl) HR.out ?_
 refine hK.out _ _ ?_
 clear hK K
 refine done_ (by kernel_rfl) ?_
 clear hHeld
 have hI1 : ItemRep tag k w1 j { it with through := addT mp it.through } := by
  obtain ⟨qv',hc',hq'⟩ := HI0.out.cells
  exact ⟨HI0.out.tptr,HI0.out.ttm,⟨qv',hF1.heap hc' (by rw [HI0.out.tptr]; simp),hq'.fr hF1 (by simp)⟩,hm1⟩
 have e3' : w1.cell? ⟨w.heap.size,3,none⟩ = some (.int .i64 mp) := hF1.cell e3 (hne _ _)
 have e4' : w1.cell? ⟨w.heap.size,4,none⟩ = some (.int .i64 (j : Int)) := hF1.cell e4 (hne _ _)
 have HI1 := Lib.hid hI1
 have HF1 := Lib.hid hF1
 have HF0 := Lib.hid hF0
 clear hI1 hF1 hm1 hF0 e3 e4 s5
 go_wp2_with fail
 refine start_ (n:=6) (S:=fun w' => w'.cell? ⟨w.heap.size,3,none⟩ = some (.int .i64 mp)) (ds := [5]) #[f_,f_,f_,f_,f_,f_] (by kernel_rfl) rfl rfl (e3') (fun hHeld => ?_)
 refine pv_ (i:=0) (N:=some 20) (v:=?_) (a':=?_) rfl rfl (by kernel_rfl) (fun _ _ _ h => h) (Or.inl ⟨by rfl,?_⟩) ?_ ?_
 rotate_left;intro w';go_simp;with_reducible rfl;rotate_left;simp only [Act.put,sA_,sB_,sC_,i64_w,i32_w];rfl
 refine pv_ (i:=1) (N:=some 21) (v:=?_) (a':=?_) rfl rfl (by kernel_rfl) (fun _ _ _ h => h) (Or.inl ⟨by rfl,?_⟩) ?_ ?_
 rotate_left;intro w';go_simp;with_reducible rfl;rotate_left;simp only [Act.put,sA_,sB_,sC_,i64_w,i32_w];rfl
 refine pv_ (i:=2) (N:=some 22) (v:=?_) (a':=?_) rfl rfl (by kernel_rfl) (fun _ _ _ h => h) (Or.inl ⟨by rfl,?_⟩) ?_ ?_
 rotate_left;intro w';go_simp;with_reducible rfl;rotate_left;simp only [Act.put,sA_,sB_,sC_,i64_w,i32_w];rfl
 refine pv_ (i:=3) (N:=some 23) (v:=?_) (a':=?_) rfl rfl (by kernel_rfl) (fun _ _ _ h => h) (Or.inl ⟨by rfl,?_⟩) ?_ ?_
 rotate_left;intro w';go_simp;with_reducible rfl;rotate_left;simp only [Act.put,sA_,sB_,sC_,i64_w,i32_w];rfl
 refine tv_ (i:=4) (N:=some 24) (v:=?_) (a':=?_) rfl rfl (by kernel_rfl) (fun _ _ _ h => h) (Or.inl ⟨by rfl,?_⟩) hHeld ?_ ?_
 rotate_left
 ·intro w' s0
  go_simp
  with_reducible rfl
 rotate_left
 ·simp only [Act.put,sA_,sB_,sC_,i64_w,i32_w];rfl
 refine last_ (i:=5) (N:=some 25) #[t_,t_,t_,t_,t_,t_] rfl rfl (by kernel_rfl) (by decide) (fun K hK => ?_)
 refine goes_ Try.func132 (by kernel_rfl) rfl #[.pointer (some ⟨it.ptr,0,none⟩),.int .i64 mp] (by rfl) rfl rfl (by simp only [List.map_toArray,List.map_cons,List.map_nil]; rfl) ?_
 with_reducible refine (leave_ok (it := { it with through := addT mp it.through }) mp (HI1.out.fr (Fr.drew (S:=fun _ => False) HF1.out.dom) (fun x => x) (fun x => x) (fun x => x)) HF1.out.dom.drew hk0 (by show it.queue.length ≤ _; omega)).mono ?_
 rintro e w2 ⟨rfl,tag2,hI2,hF2⟩
 refine ⟨_,rfl,?_⟩
 refine hK.out _ _ ?_
 clear hK K
 refine norm_ (a':=?_) ?_ ?_
 rotate_left
 ·show Act.put _ (some 25) _ = _
  simp only [Act.put,sA_,sB_,sC_,i64_w,i32_w]
  rfl
 refine done_ (by kernel_rfl) ?_
 clear hHeld
 have hF2a : Fr (fun t => t = (k,7,(j : Int)) ∨ t = (k,8,(j : Int)) ∨ t = (k,9,(j : Int))) tag tag2 w w2 :=
  ((HF0.out.mono (fun _ h => h.elim)).trans (HF1.out.dr.mono (fun _ h => .inr (.inr h)))).trans (hF2.mono (fun _ h => h.elim .inl (fun h => .inr (.inl h))))
 have ht2 : tag2 w.heap.size = tag w.heap.size := by
  have hlt := World.block_lt_of_cell? w1 _ e3'
  exact hF2.same _ hlt
 have f3 : w2.cell? ⟨w.heap.size,3,none⟩ = some (.int .i64 mp) := hF2.cell (a := ⟨w.heap.size,3,none⟩) e3' (fun h => h.elim (hne _ _) (hne _ _))
 have f4 : w2.cell? ⟨w.heap.size,4,none⟩ = some (.int .i64 (j : Int)) := hF2.cell (a := ⟨w.heap.size,4,none⟩) e4' (fun h => h.elim (hne _ _) (hne _ _))
 have HI2 : Hid (ItemRep tag2 k w2 j (freedItem it mp)) := Lib.hid hI2
 obtain ⟨qv,hic,hqr⟩ := HI2.out.cells
 have hql : (freedItem it mp).queue.length ≤ 100000 := Nat.le_trans (List.length_filter_le _ _) hq
 have x0 : w2.cell? ⟨it.ptr,0,none⟩ = some (.bool it.held) := cell_of hic 0
 have x1 : w2.cell? ⟨it.ptr,1,none⟩ = some (.int .i64 it.lk.prop) := cell_of hic 1
 have HF2 := Lib.hid hF2a
 have HT2 := Lib.hid ht2
 have HC2 := Lib.hid hic
 clear e3' e4' hI2 hF2 hF2a ht2 hic
 by_cases hh : it.held = true ∧ it.lk.prop = mp
 ·have hb : (it.held && it.lk.prop == mp) = true := by rw [hh.1,hh.2]; simp
  have HB := Lib.hid hb
  have HH := Lib.hid hh
  have x2 : w2.cell? ⟨it.ptr,2,none⟩ = some (.int .i64 it.lk.place) := cell_of HC2.out 2
  have x3 : w2.cell? ⟨it.ptr,3,none⟩ = some qv := cell_of HC2.out 3
  have f0 : w2.frozen? ⟨it.ptr,0,none⟩ = false := free_of HC2.out 0
  have f1 : w2.frozen? ⟨it.ptr,1,none⟩ = false := free_of HC2.out 1
  have f2 : w2.frozen? ⟨it.ptr,2,none⟩ = false := free_of HC2.out 2
  obtain ⟨A,qcap,rfl,hl3,hl4⟩ := hqr.form
  unfold maxLen at hl4
  have ht7 : tag2 it.ptr = (k,7,(j : Int)) := HI2.out.tptr
  clear hb hh
  go_wp2_with fail
  go_quiet ((go_at_call 124; refine Calls.quiet_at (is_val it.ptr it.held it.lk.prop mp _ _ HB.out ?_ ?_) ?_; (exact x0); (exact x1); exact ⟨_,rfl⟩))
  have hlen : (0 : Int) ≤ ((freedItem it mp).queue.length : Int) := by omega
  cases hqq : (freedItem it mp).queue with
  | nil =>
   have hm : freedM P ⟨mk,ms,md,mp,j,mv⟩ j it = P.setItem j { freedItem it mp with held := false,lk := ⟨0,0⟩ } := by
    have h1 : others mp it.queue = [] := hqq
    simp [freedM,HH.out,h1]
   have HM := Lib.hid hm
   have hq0 : (freedItem it mp).queue.length = 0 := by rw [hqq]; rfl
   have hqr0 := hqr
   rw [hq0] at x3
   clear hm hqq
   go_wp2_with fail
   go_end0
   rw [HM.out]
   have h5 := Go.Ng.heap_setCell_same (Go.Ng.heap_setCell_same (Go.Ng.heap_setCell_same (show (w2.drewN nq).heap[it.ptr]? = _ from HC2.out) 0 (.bool false)) 1 (.int .i64 0)) 2 (.int .i64 0)
   have hF3 : Fr (· = (k,7,(j : Int))) tag2 tag2 w2 ((((w2.drewN nq).setCell ⟨it.ptr,0,none⟩ (.bool false)).setCell ⟨it.ptr,1,none⟩ (.int .i64 0)).setCell ⟨it.ptr,2,none⟩ (.int .i64 0)) :=
    ((((Fr.refl HF2.out.dom).dN nq).sc it.ptr 0 _ ht7).sc it.ptr 1 _ ht7).sc it.ptr 2 _ ht7
   have hFe := HF2.out.trans (hF3.mono (fun t h => .inl h))
   refine ⟨rfl,tag2,HP.out.item_upd HJ.out rfl ?_ hFe (fun _ h => h),hFe.mono (fun t h => by rcases h with h | h | h <;> rw [h])⟩
   exact ⟨HI2.out.tptr,HI2.out.ttm,⟨_,h5,hqr.fr hF3 (by simp)⟩,HI2.out.map.fr hF3 (by rw [HI2.out.ttm]; simp)⟩
  | cons a l =>
   obtain ⟨ap,al⟩ := a
   have hm : freedM P ⟨mk,ms,md,mp,j,mv⟩ j it = grantM P j { freedItem it mp with held := false,lk := ⟨0,0⟩,queue := others ap (freedItem it mp).queue } j ⟨ap,al⟩ := by
    have h1 : others mp it.queue = ⟨ap,al⟩ :: l := hqq
    rw [hqq]
    simp [freedM,HH.out,h1]
   have HM := Lib.hid hm
   have hq0 : (0 : Int) < ((freedItem it mp).queue.length : Int) := by rw [hqq,List.length_cons]; omega
   obtain ⟨qb,rfl,hbt,hb5,hce⟩ := Row.elem (enc := Asker.cells) hqr (fun _ => rfl) (by decide) (show (freedItem it mp).queue[0]? = some ⟨ap,al⟩ by rw [hqq]; rfl)
   have g0 : w2.cell? ⟨qb,0,none⟩ = some (.int .i64 ap) := hce 0 _ rfl
   have g1 : w2.cell? ⟨qb,1,none⟩ = some (.int .i64 al) := hce 1 _ rfl
   have hnq : qb ≠ it.ptr := ne_of_tag hbt ht7 (by simp)
   have hnq2 : it.ptr ≠ qb := hnq.symm
   clear hm hqq hce
   go_wp2_with fail
   obtain ⟨w3,hw3⟩ : ∃ w3,w3 = (((w2.drewN nq).setCell ⟨it.ptr,0,none⟩ (.bool false)).setCell ⟨it.ptr,1,none⟩ (.int .i64 0)).setCell ⟨it.ptr,2,none⟩ (.int .i64 0) := ⟨_,rfl⟩
   rw [← hw3]
   have h5 := Go.Ng.heap_setCell_same (Go.Ng.heap_setCell_same (Go.Ng.heap_setCell_same (show (w2.drewN nq).heap[it.ptr]? = _ from HC2.out) 0 (.bool false)) 1 (.int .i64 0)) 2 (.int .i64 0)
   have hF3 : Fr (· = (k,7,(j : Int))) tag2 tag2 w2 w3 := by
    rw [hw3]; exact ((((Fr.refl HF2.out.dom).dN nq).sc it.ptr 0 _ ht7).sc it.ptr 1 _ ht7).sc it.ptr 2 _ ht7
   rw [← hw3] at h5
   have hs3 : w3.heap.size = w2.heap.size := by rw [hw3]; simp
   have hI3 : ItemRep tag2 k w3 j { freedItem it mp with held := false,lk := ⟨0,0⟩ } :=
    ⟨HI2.out.tptr,HI2.out.ttm,⟨_,h5,hqr.fr hF3 (by simp)⟩,HI2.out.map.fr hF3 (by rw [HI2.out.ttm]; simp)⟩
   have hF4 : Fr (fun _ => False) tag2 tag2 w3 (w3.alloc (.cells #[.int .i64 ap,.int .i64 al] 116)) := Fr.alloc hF3.dom _
   have hF24 : Fr (· = (k,7,(j : Int))) tag2 tag2 w2 (w3.alloc (.cells #[.int .i64 ap,.int .i64 al] 116)) := hF3.al _
   have k4 : (w3.alloc (.cells #[.int .i64 ap,.int .i64 al] 116)).cell? ⟨w.heap.size,4,none⟩ = some (.int .i64 (j : Int)) := hF24.cell f4 (by rw [HT2.out]; exact hne _ _)
   have a0 : (w3.alloc (.cells #[.int .i64 ap,.int .i64 al] 116)).cell? ⟨w2.heap.size,0,none⟩ = some (.int .i64 ap) := by rw [← hs3]; go_simp
   have a1 : (w3.alloc (.cells #[.int .i64 ap,.int .i64 al] 116)).cell? ⟨w2.heap.size,1,none⟩ = some (.int .i64 al) := by rw [← hs3]; go_simp
   have hbw : w.heap.size < w2.heap.size := World.block_lt_of_cell? w2 _ f4
   have HI3 := Lib.hid hI3
   have HF24 := Lib.hid hF24
   have HF4 := Lib.hid hF4
   clear hw3 hF3 h5 hI3 hF24 hF4 x0 x1 x2 x3 f0 f1 f2 f3 f4 g0 g1
   refine start_ (n:=6) (S:=fun w' => w'.cell? ⟨w2.heap.size,0,none⟩ = some (.int .i64 ap)) (ds := [5]) #[f_,f_,f_,f_,f_,f_] (by kernel_rfl) rfl rfl (a0) (fun hHeld => ?_)
   refine pv_ (i:=0) (N:=some 56) (v:=?_) (a':=?_) rfl rfl (by kernel_rfl) (fun _ _ _ h => h) (Or.inl ⟨by rfl,?_⟩) ?_ ?_
   rotate_left;intro w';go_simp;with_reducible rfl;rotate_left;simp only [Act.put,sA_,sB_,sC_,i64_w,i32_w];rfl
   refine pv_ (i:=1) (N:=some 57) (v:=?_) (a':=?_) rfl rfl (by kernel_rfl) (fun _ _ _ h => h) (Or.inl ⟨by rfl,?_⟩) ?_ ?_
   rotate_left;intro w';go_simp;with_reducible rfl;rotate_left;simp only [Act.put,sA_,sB_,sC_,i64_w,i32_w];rfl
   refine pv_ (i:=2) (N:=some 58) (v:=?_) (a':=?_) rfl rfl (by kernel_rfl) (fun _ _ _ h => h) (Or.inl ⟨by rfl,?_⟩) ?_ ?_
   rotate_left;intro w';go_simp;with_reducible rfl;rotate_left;simp only [Act.put,sA_,sB_,sC_,i64_w,i32_w];rfl
   refine pv_ (i:=3) (N:=some 59) (v:=?_) (a':=?_) rfl rfl (by kernel_rfl) (fun _ _ _ h => h) (Or.inl ⟨by rfl,?_⟩) ?_ ?_
   rotate_left;intro w';go_simp;with_reducible rfl;rotate_left;simp only [Act.put,sA_,sB_,sC_,i64_w,i32_w];rfl
   refine tv_ (i:=4) (N:=some 60) (v:=?_) (a':=?_) rfl rfl (by kernel_rfl) (fun _ _ _ h => h) (Or.inl ⟨by rfl,?_⟩) hHeld ?_ ?_
   rotate_left
   ·intro w' s0
    go_simp
    with_reducible rfl
   rotate_left
   ·simp only [Act.put,sA_,sB_,sC_,i64_w,i32_w];rfl
   refine last_ (i:=5) (N:=some 61) #[t_,t_,t_,t_,t_,t_] rfl rfl (by kernel_rfl) (by decide) (fun K hK => ?_)
   refine goes_ Try.func132 (by kernel_rfl) rfl #[.pointer (some ⟨it.ptr,0,none⟩),.int .i64 ap] (by rfl) rfl rfl (by simp only [List.map_toArray,List.map_cons,List.map_nil]; rfl) ?_
   refine (leave_ok (it := { freedItem it mp with held := false,lk := ⟨0,0⟩ }) ap (HI3.out.fr HF4.out.dr (fun x => x) (fun x => x) (fun x => x)) HF4.out.dr.dom hk0 (by show (freedItem it mp).queue.length ≤ _; omega)).mono ?_
   rintro e w5 ⟨rfl,tag5,hI5,hF5⟩
   refine ⟨_,rfl,?_⟩
   refine hK.out _ _ ?_
   clear hK K
   refine norm_ (a':=?_) ?_ ?_
   rotate_left
   ·show Act.put _ (some 61) _ = _
    simp only [Act.put,sA_,sB_,sC_,i64_w,i32_w]
    rfl
   refine done_ (by kernel_rfl) ?_
   clear hHeld
   have ht5 : ∀ b,b < w2.heap.size + 1 → tag5 b = tag2 b := fun b hb => hF5.same b (by simp [hs3]; omega)
   have l4 : w5.cell? ⟨w.heap.size,4,none⟩ = some (.int .i64 (j : Int)) := hF5.cell (a := ⟨w.heap.size,4,none⟩) k4 (by rw [HT2.out]; exact fun h => h.elim (hne _ _) (hne _ _))
   have l0 : w5.cell? ⟨w2.heap.size,0,none⟩ = some (.int .i64 ap) := hF5.cell (a := ⟨w2.heap.size,0,none⟩) a0 (fun h => h.elim (new_ne HF2.out.dom hk0) (new_ne HF2.out.dom hk0))
   have l1 : w5.cell? ⟨w2.heap.size,1,none⟩ = some (.int .i64 al) := hF5.cell (a := ⟨w2.heap.size,1,none⟩) a1 (fun h => h.elim (new_ne HF2.out.dom hk0) (new_ne HF2.out.dom hk0))
   have hFe : Fr (fun t => t = (k,7,(j : Int)) ∨ t = (k,8,(j : Int)) ∨ t = (k,9,(j : Int))) tag tag5 w w5 :=
    (HF2.out.trans (HF24.out.dr.mono (fun _ h => .inl h))).trans (hF5.mono (fun _ h => h.elim .inl (fun h => .inr (.inl h))))
   have HP5 := Lib.hid (HP.out.item_upd HJ.out (it' := { freedItem it mp with held := false,lk := ⟨0,0⟩,queue := others ap (freedItem it mp).queue }) rfl hI5 hFe (fun _ h => h))
   have hokf := hFe.dom
   have HFE := Lib.hid hFe
   clear hI5 hF5 hFe k4 a0 a1 ht5
   go_wp2_with (
    go_at_call 130
    refine (grant_ok (it := { freedItem it mp with held := false,lk := ⟨0,0⟩,queue := others ap (freedItem it mp).queue }) (j : Int) ⟨ap,al⟩ HP5.out hokf (item_set HJ.out) (by show P.out.length ≤ _; omega)).mono ?_
    rintro e w6 ⟨rfl,tag6,hP6,hF6⟩
    have HP6 := Lib.hid hP6
    have HF6 := Lib.hid hF6
    clear hP6 hF6)
   go_end0
   rw [HM.out]
   refine ⟨rfl,tag6,?_,(HFE.out.mono (fun t h => by rcases h with h | h | h <;> rw [h])).trans HF6.out⟩
   have := HP6.out
   rw [grant_set] at this
   exact this
 ·have hm : freedM P ⟨mk,ms,md,mp,j,mv⟩ j it = P.setItem j (freedItem it mp) := by simp [freedM,hh]
  have HM := Lib.hid hm
  have hb : (it.held && it.lk.prop == mp) = false := by
   cases h1 : it.held
   ·rfl
   ·simp only [Bool.true_and,beq_eq_false_iff_ne]; exact fun h2 => hh ⟨h1,h2⟩
  have HB := Lib.hid hb
  clear hm hh hb
  go_wp2_with fail
  go_quiet ((go_at_call 124; refine Calls.quiet_at (is_val it.ptr it.held it.lk.prop mp _ _ HB.out ?_ ?_) ?_; (exact x0); (exact x1); exact ⟨_,rfl⟩))
  go_wp2_with fail
  ((try simp only [Exit.inBlock,Exit.then]); refine bodyPost_ret (results_none rfl _ _ _) rfl ?_)
  rw [HM.out]
  refine ⟨rfl,tag2,PRep.drewN (HP.out.item_upd HJ.out (it' := freedItem it mp) rfl HI2.out HF2.out (fun _ h => h)) HF2.out.dom _,(HF2.out.dN _).mono (fun t h => by rcases h with h | h | h <;> rw [h])⟩
theorem site_ok (n : Int) (h0 : 0 ≤ n) (h1 : n < 32) (w : World) : Calls Try.prog 109 #[.int .i64 n] w fun e w' => e = .returned (.bool true) ∧ w' = w := by
 go_enter Try.func109,Try.ntmps109
 go_wp2
 go_ret
 exact ⟨rfl,rfl⟩
structure Valid (P : PlaceM) (m : Post) : Prop where
 kind : 1 ≤ m.kind ∧ m.kind ≤ 5
 dst : m.dst = P.no
 src : 0 ≤ m.src ∧ m.src < 32
 item : 0 ≤ m.item ∧ m.item < P.sites.length
 version : 0 ≤ m.version ∧ (m.kind ≠ 1 → m.version = 0)
 prop : 0 ≤ m.prop ∧ m.prop ≤ 2147483647
 site : P.site m.item = if m.kind = 2 ∨ m.kind = 3 then m.src else m.dst
theorem post_ok {tag : Nat → Tag} {k : Nat} {P : PlaceM} {w : World} (m : Post) (hP : PRep tag k w P) (hok : TagOk tag w) (hv : Valid P m) :
  Calls Try.prog 79 #[.pointer (some ⟨P.ptr,0,none⟩),Post.val m] w fun e w' => e = .returned (.bool true) ∧ Fr (fun _ => False) tag tag w w' := by
 obtain ⟨⟨k1,k2⟩,hd,⟨s1,s2⟩,⟨j1,j2⟩,⟨v1,v2⟩,⟨p1,p2⟩,hs⟩ := hv
 obtain ⟨mk,ms,md,mp,mi,mv⟩ := m
 simp only at k1 k2 hd s1 s2 j1 j2 v1 v2 p1 p2 hs
 obtain ⟨j,rfl⟩ := Int.eq_ofNat_of_zero_le j1
 obtain ⟨sv,iv,ov,cv,hc,h2,h3,h4,h5⟩ := hP.cells
 have hjl : j < P.sites.length := by omega
 obtain ⟨b,cap,rfl,hl1,hl2,hsc⟩ := PRep.site_cell h2 hjl
 unfold maxLen at hl2
 have c0 : w.cell? ⟨P.ptr,0,none⟩ = some (.int .i64 P.no) := cell_of hc 0
 have c1 : w.cell? ⟨P.ptr,1,none⟩ = some (.slice (some ⟨b,0,none⟩) P.sites.length cap) := cell_of hc 1
 have hpl := lt_of_heap hc
 have hbl := World.block_lt_of_cell? w _ hsc
 clear hP hc h2 h3 h4 h5
 rw [hs] at hsc
 rw [← hd] at c0
 unfold Post.val
 clear hs hd
 rcases (show mk = 1 ∨ mk = 2 ∨ mk = 3 ∨ mk = 4 ∨ mk = 5 by omega) with rfl | rfl | rfl | rfl | rfl <;> (
  simp at hsc v2
  try subst v2
  go_enter Try.func79,Try.ntmps79
  go_wp2_with fail
  go_quiet ((go_at_call 109; exact Calls.quiet_at (site_ok ms s1 s2 _) ⟨_,rfl⟩))
  go_wp2_with fail
  go_quiet (fail)
  go_wp2
  go_ret
  exact ⟨rfl,(((Fr.refl hok).al _).dN _).dN _⟩)
theorem handlers_ok (w : World) : Calls Try.prog 80 #[] w fun e w' => e = .returned (.agg #[.nilFunc,.func (.func 110) #[] #[],.func (.func 111) #[] #[],.func (.func 112) #[] #[],.func (.func 113) #[] #[],.func (.func 114) #[] #[]]) ∧ ∃ o,w' = w.alloc o := by
 go_enter Try.func80,Try.ntmps80
 go_wp2
 (try simp only [Exit.inBlock,Exit.then])
 refine bodyPost_ret (results_cell_row rfl _ _ w.heap.size 146 #[.nilFunc,.func (.func 110) #[] #[],.func (.func 111) #[] #[],.func (.func 112) #[] #[],.func (.func 113) #[] #[],.func (.func 114) #[] #[]] (0,0) _ rfl (by rw [Go.Ng.heap_alloc_at]) Try.underlying146 rfl (by kernel_rfl)) rfl ?_
 exact ⟨rfl,_,rfl⟩
section
variable {P : Program} {ops : Array Oper} {Q : Exit → Act → World → Prop}
theorem goesv_ {oi : Oper} {N : Option Tmp} {a : Act} {w : World} {K : Act → World → Prop} {f : FuncId} {fn : Func} {x : Operand} {xs : Array Operand} {ts : Array TypeId} (hf : P.funcs[f]? = some fn) (hname : (fn.name == "runtime.NumGoroutine") = false) (hb : fn.body.isSome = true) (args : Array Value)
  (hw : Region.wanted oi (yielded ops a.tmps) = true) (hN : oi.dst = N) (hop : oi.op = .call { callee := .value x,args := xs,argTypes := ts }) (hx : a.eval x = .func (.func f) #[] #[]) (hargs : xs.map a.eval = args)
  (h : Calls P f args w fun e w' => ∃ v,e = .returned v ∧ K (a.put N v) w') : if Region.wanted oi (yielded ops a.tmps) = true then Oper.wp P oi a w K Q else K (a.put N undef) w := by
 refine call_ f args hw hN ?_ h
 have he := enters_ hf hname hb args w
 unfold execOp
 simp [hop,resolve,Deferred.ofValue,invoke,hx,hargs,he]
end
theorem index_h1 (w : World) : (Instr.index 146 (.agg #[.nilFunc,.func (.func 110) #[] #[],.func (.func 111) #[] #[],.func (.func 112) #[] #[],.func (.func 113) #[] #[],.func (.func 114) #[] #[]]) (.int .i64 1)).run Try.prog w = .ok (.func (.func 110) #[] #[]) w := by kernel_rfl
theorem index_h2 (w : World) : (Instr.index 146 (.agg #[.nilFunc,.func (.func 110) #[] #[],.func (.func 111) #[] #[],.func (.func 112) #[] #[],.func (.func 113) #[] #[],.func (.func 114) #[] #[]]) (.int .i64 2)).run Try.prog w = .ok (.func (.func 111) #[] #[]) w := by kernel_rfl
theorem index_h3 (w : World) : (Instr.index 146 (.agg #[.nilFunc,.func (.func 110) #[] #[],.func (.func 111) #[] #[],.func (.func 112) #[] #[],.func (.func 113) #[] #[],.func (.func 114) #[] #[]]) (.int .i64 3)).run Try.prog w = .ok (.func (.func 112) #[] #[]) w := by kernel_rfl
theorem index_h4 (w : World) : (Instr.index 146 (.agg #[.nilFunc,.func (.func 110) #[] #[],.func (.func 111) #[] #[],.func (.func 112) #[] #[],.func (.func 113) #[] #[],.func (.func 114) #[] #[]]) (.int .i64 4)).run Try.prog w = .ok (.func (.func 113) #[] #[]) w := by kernel_rfl
theorem index_h5 (w : World) : (Instr.index 146 (.agg #[.nilFunc,.func (.func 110) #[] #[],.func (.func 111) #[] #[],.func (.func 112) #[] #[],.func (.func 113) #[] #[],.func (.func 114) #[] #[]]) (.int .i64 5)).run Try.prog w = .ok (.func (.func 114) #[] #[]) w := by kernel_rfl
def takeM (P : PlaceM) (m : Post) : PlaceM :=
 if m.kind = 2 then grantedM P m else if m.kind = 3 then refusedM P m else
 match P.item m.item.toNat with
 | none => P
 | some it => if m.kind = 1 then askedM P m m.item.toNat it else if m.kind = 4 then committedM P m m.item.toNat it else freedM P m m.item.toNat it
theorem grantedM_ptr (P : PlaceM) (m : Post) : (grantedM P m).ptr = P.ptr := by
 unfold grantedM
 split
 ·rfl
 ·split
  ·rfl
  ·exact (commitM_same _ _ _).1
theorem refusedM_ptr (P : PlaceM) (m : Post) : (refusedM P m).ptr = P.ptr := by
 unfold refusedM
 split
 ·rfl
 ·exact (freeM_same _ _ _).1
theorem refuseAll_ptr (j : Nat) (n : Int) : ∀ (l : List Asker) (P : PlaceM) (it : ItemM),(refuseAll j n l P it).ptr = P.ptr
 | [],P,it => rfl
 | a :: l,P,it => (refuseAll_ptr j n l _ _).trans rfl
theorem takeM_ptr (P : PlaceM) (m : Post) : (takeM P m).ptr = P.ptr := by
 unfold takeM
 split
 ·exact grantedM_ptr P m
 ·split
  ·exact refusedM_ptr P m
  ·split
   ·rfl
   ·split
    ·unfold askedM
     repeat' (first | rfl | split)
    ·split
     ·unfold committedM
      split
      ·exact refuseAll_ptr _ _ _ _ _
      ·rfl
     ·unfold freedM
      repeat' (first | rfl | split)
structure Tame (P : PlaceM) : Prop where
 wf : WF P
 out : P.out.length ≤ 100000
 came : P.came.length ≤ 100000
 queue : ∀ (j : Nat) (it : ItemM),P.items[j]? = some (some it) → it.queue.length ≤ 100000
 version : ∀ (j : Nat) (it : ItemM),P.items[j]? = some (some it) → 0 ≤ it.version ∧ it.version ≤ 1000000000
theorem item_some {P : PlaceM} {j : Nat} {it : ItemM} (h : P.items[j]? = some (some it)) : P.item j = some it := by
 simp [PlaceM.item,h]
def Handled (f : FuncId) (tag : Nat → Tag) (k : Nat) (P : PlaceM) (m : Post) (w : World) (P' : PlaceM) : Prop :=
 Calls Try.prog f #[.pointer (some ⟨P.ptr,0,none⟩),Post.val m] w fun e w' => e = .returned (.tuple #[]) ∧ ∃ tag',PRep tag' k w' P' ∧ Fr (fun t => t.1 = k) tag tag' w w'
theorem Handled.calls {f : FuncId} {tag : Nat → Tag} {k : Nat} {P : PlaceM} {m : Post} {w : World} {P' : PlaceM} (h : Handled f tag k P m w P') :
  Calls Try.prog f #[.pointer (some ⟨P.ptr,0,none⟩),Post.val m] w fun e w' => e = .returned (.tuple #[]) ∧ ∃ tag',PRep tag' k w' P' ∧ Fr (fun t => t.1 = k) tag tag' w w' := h
theorem take1_ok {tag : Nat → Tag} {k : Nat} {P : PlaceM} {w : World} (m : Post) (hP : PRep tag k w P) (hok : TagOk tag w) (hmk : m.kind = 1) (hv : Valid P m) (ht : Tame P)
  (hpr : m.kind = 2 ∨ m.kind = 3 → ∃ x,find P.props m.prop = some x) (hit : m.kind ≠ 2 → m.kind ≠ 3 → ∃ it,P.items[m.item.toNat]? = some (some it)) :
  Calls Try.prog 25 #[.pointer (some ⟨P.ptr,0,none⟩),Post.val m] w fun e w' => ∃ ov cv,e = .returned (.tuple #[ov,cv,.int .i64 0]) ∧
   ∃ tag',Row tag' (k,5,0) 49 6 w' ov (takeM P m).out.length (posts (takeM P m).out) ∧ Row tag' (k,6,0) 106 3 w' cv (takeM P m).came.length (cames (takeM P m).came) ∧
    PRep tag' k w' { takeM P m with out := [],came := [] } ∧ Fr (fun t => t.1 = k) tag tag' w w' := by
 obtain ⟨mk,ms,md,mp,mi,mv⟩ := m
 obtain ⟨j,hj⟩ := Int.eq_ofNat_of_zero_le hv.item.1
 simp only at hj hmk
 subst hj
 subst hmk
 have hmi : (j : Int).toNat = j := rfl
 simp only at hpr hit
 obtain ⟨sv,iv,ov,cv,hc,h2,h3,h4,h5⟩ := hP.cells
 have c3 : w.cell? ⟨P.ptr,3,none⟩ = some (.map (some P.pm)) := cell_of hc 3
 have hpl := lt_of_heap hc
 have HP := Lib.hid hP
 have HV := Lib.hid hv
 have HT := Lib.hid ht
 have hk0 := hP.k0
 have hne : ∀ r i,tag w.heap.size ≠ (k,r,i) := fun r i => new_ne hok hk0
 clear hP hc h2 h3 h4 h5 hv ht
 obtain ⟨it,hi⟩ := hit (by decide) (by decide)
 rw [hmi] at hi
 have hM : takeM P ⟨1,ms,md,mp,j,mv⟩ = askedM P ⟨1,ms,md,mp,j,mv⟩ j it := by simp [takeM,hmi,item_some hi]
 have HH : Hid (∀ w1,PRep tag k w1 P → TagOk tag w1 → Handled 110 tag k P ⟨1,ms,md,mp,j,mv⟩ w1 (takeM P ⟨1,ms,md,mp,j,mv⟩)) :=
  Lib.hid (fun w1 hP1 hok1 => by rw [hM]; exact asked_ok ⟨1,ms,md,mp,j,mv⟩ hP1 hok1 hi rfl HT.out.out (HT.out.queue _ _ hi))
 clear hM hi hit hpr
 unfold Post.val
 go_enter Try.func25,Try.ntmps25
 go_wp2_with (
  go_at_call 79
  refine (post_ok ⟨1,ms,md,mp,j,mv⟩ (HP.out.alloc hok _) (hok.alloc _) HV.out).mono ?_
  rintro e w1 ⟨rfl,hF1⟩
  have hFa : Fr (fun _ => False) tag tag w w1 := (Fr.alloc hok _).trans hF1
  have c3' : w1.cell? ⟨P.ptr,3,none⟩ = some (.map (some P.pm)) := hFa.cellF c3
  have e0 : w1.cell? ⟨w.heap.size,0,none⟩ = some (.int .i64 1) := hF1.cellF (by go_simp)
  have e1 : w1.cell? ⟨w.heap.size,1,none⟩ = some (.int .i64 ms) := hF1.cellF (by go_simp)
  have e2 : w1.cell? ⟨w.heap.size,2,none⟩ = some (.int .i64 md) := hF1.cellF (by go_simp)
  have e3 : w1.cell? ⟨w.heap.size,3,none⟩ = some (.int .i64 mp) := hF1.cellF (by go_simp)
  have e4 : w1.cell? ⟨w.heap.size,4,none⟩ = some (.int .i64 (j : Int)) := hF1.cellF (by go_simp)
  have e5 : w1.cell? ⟨w.heap.size,5,none⟩ = some (.int .i64 mv) := hF1.cellF (by go_simp)
  have HP1 := Lib.hid (HP.out.fr hFa (fun _ _ x => x))
  have hok1 := hFa.dom
  have HFa := Lib.hid hFa
  clear hFa hF1)
 go_quiet (fail)
 go_wp2_with fail
 have hix := index_h1
 refine start_ (n:=7) (S:=fun w' => w'.cell? ⟨w.heap.size,0,none⟩ = some (.int .i64 1) ∧ w'.cell? ⟨w.heap.size,1,none⟩ = some (.int .i64 ms) ∧ w'.cell? ⟨w.heap.size,2,none⟩ = some (.int .i64 md) ∧ w'.cell? ⟨w.heap.size,3,none⟩ = some (.int .i64 mp) ∧ w'.cell? ⟨w.heap.size,4,none⟩ = some (.int .i64 (j : Int)) ∧ w'.cell? ⟨w.heap.size,5,none⟩ = some (.int .i64 mv)) (ds := [6]) #[f_,f_,f_,f_,f_,f_,f_] (by kernel_rfl) rfl rfl ⟨e0,e1,e2,e3,e4,e5⟩ (fun hHeld => ?_)
 refine pv_ (i:=1) (N:=some 37) (v:=?_) (a':=?_) rfl rfl (by kernel_rfl) (fun _ _ _ h => h) (Or.inl ⟨by rfl,?_⟩) ?_ ?_
 rotate_left;intro w';go_simp;with_reducible rfl;rotate_left;simp only [Act.put,sA_,sB_,sC_,i64_w,i32_w];rfl
 refine pv_ (i:=4) (N:=some 40) (v:=?_) (a':=?_) rfl rfl (by kernel_rfl) (fun _ _ _ h => h) (Or.inl ⟨by rfl,?_⟩) ?_ ?_
 rotate_left;intro w';go_simp;with_reducible rfl;rotate_left;simp only [Act.put,sA_,sB_,sC_,i64_w,i32_w];rfl
 refine tv_ (i:=2) (N:=some 38) (v:=?_) (a':=?_) rfl rfl (by kernel_rfl) (fun _ _ _ h => h) (Or.inl ⟨by rfl,?_⟩) hHeld ?_ ?_
 rotate_left;rintro w' ⟨s0,s1,s2,s3,s4,s5⟩;go_simp;with_reducible rfl;rotate_left;simp only [Act.put,sA_,sB_,sC_,i64_w,i32_w];rfl
 refine tv_ (i:=5) (N:=some 41) (v:=?_) (a':=?_) rfl rfl (by kernel_rfl) (fun _ _ _ h => h) (Or.inl ⟨by rfl,?_⟩) hHeld ?_ ?_
 rotate_left;rintro w' ⟨s0,s1,s2,s3,s4,s5⟩;go_simp;with_reducible rfl;rotate_left;simp only [Act.put,sA_,sB_,sC_,i64_w,i32_w];rfl
 refine one_ (i:=0) (N:=some 36) #[t_,t_,t_,f_,t_,t_,f_] rfl rfl (by kernel_rfl) (by decide) (fun K hK => ?_)
 refine goes_ Try.func80 (by kernel_rfl) rfl #[] (by rfl) rfl rfl (by simp) ?_
 refine (handlers_ok _).mono ?_
 rintro e w2 ⟨rfl,o,rfl⟩
 refine ⟨_,rfl,?_⟩
 refine hK.out _ _ ⟨(ca hHeld.1 _),(ca hHeld.2.1 _),(ca hHeld.2.2.1 _),(ca hHeld.2.2.2.1 _),(ca hHeld.2.2.2.2.1 _),(ca hHeld.2.2.2.2.2 _)⟩ (fun hHeld => ?_)
 clear hK K
 refine norm_ (a':=?_) ?_ ?_
 rotate_left
 ·show Act.put _ (some 36) _ = _
  simp only [Act.put,sA_,sB_,sC_,i64_w,i32_w]
  rfl
 refine tv_ (i:=3) (N:=some 39) (v:=?_) (a':=?_) rfl rfl (by kernel_rfl) (fun _ _ _ h => h) (Or.inl ⟨by rfl,?_⟩) hHeld ?_ ?_
 rotate_left;rintro w' ⟨s0,s1,s2,s3,s4,s5⟩;go_simp;with_reducible rfl;rotate_left;simp only [Act.put,sA_,sB_,sC_,i64_w,i32_w];rfl
 refine last_ (i:=6) (N:=some 42) #[t_,t_,t_,t_,t_,t_,t_] rfl rfl (by kernel_rfl) (by decide) (fun K hK => ?_)
 refine goesv_ Try.func110 rfl rfl #[.pointer (some ⟨P.ptr,0,none⟩),Post.val ⟨1,ms,md,mp,j,mv⟩] (by rfl) rfl rfl (by rfl) (by simp only [List.map_toArray,List.map_cons,List.map_nil]; rfl) ?_
 refine (Handled.calls (HH.out _ (((HP1.out.drewN hok1 nq).drew (TagOk.drewN hok1 nq)).alloc (TagOk.drew (TagOk.drewN hok1 nq)) o) (TagOk.alloc (TagOk.drew (TagOk.drewN hok1 nq)) o))).mono ?_
 rintro e w3 ⟨rfl,tag3,hP3,hF3⟩
 refine ⟨_,rfl,?_⟩
 refine hK.out _ _ ?_
 clear hK K
 refine norm_ (a':=?_) ?_ ?_
 rotate_left
 ·show Act.put _ (some 42) _ = _
  simp only [Act.put,sA_,sB_,sC_,i64_w,i32_w]
  rfl
 refine done_ (by kernel_rfl) ?_
 clear hHeld
 have HP3 := Lib.hid hP3
 have HF3 := Lib.hid ((((HFa.out.dN nq).dr.al o).mono (fun _ h => h.elim)).trans hF3)
 have HPT := Lib.hid (takeM_ptr P ⟨1,ms,md,mp,(j : Int),mv⟩)
 clear hP3 hF3 e0 e1 e2 e3 e4 e5 c3'
 go_wp2_with (
  go_at_call 72
  rw [← HPT.out]
  refine (told_ok HP3.out HF3.out.dom).mono ?_
  rintro e w4 ⟨ov,cv,rfl,ho,hc,hP4,hF4⟩
  have HO := Lib.hid ho
  have HC := Lib.hid hc
  have HP4 := Lib.hid hP4
  have HF4 := Lib.hid hF4
  clear ho hc hP4 hF4)
 go_ret3
 exact ⟨ov,cv,rfl,tag3,HO.out,HC.out,HP4.out,HF3.out.trans (HF4.out.mono (fun t (h : t = _) => by rw [h]))⟩
theorem take2_ok {tag : Nat → Tag} {k : Nat} {P : PlaceM} {w : World} (m : Post) (hP : PRep tag k w P) (hok : TagOk tag w) (hmk : m.kind = 2) (hv : Valid P m) (ht : Tame P)
  (hpr : m.kind = 2 ∨ m.kind = 3 → ∃ x,find P.props m.prop = some x) (hit : m.kind ≠ 2 → m.kind ≠ 3 → ∃ it,P.items[m.item.toNat]? = some (some it)) :
  Calls Try.prog 25 #[.pointer (some ⟨P.ptr,0,none⟩),Post.val m] w fun e w' => ∃ ov cv,e = .returned (.tuple #[ov,cv,.int .i64 0]) ∧
   ∃ tag',Row tag' (k,5,0) 49 6 w' ov (takeM P m).out.length (posts (takeM P m).out) ∧ Row tag' (k,6,0) 106 3 w' cv (takeM P m).came.length (cames (takeM P m).came) ∧
    PRep tag' k w' { takeM P m with out := [],came := [] } ∧ Fr (fun t => t.1 = k) tag tag' w w' := by
 obtain ⟨mk,ms,md,mp,mi,mv⟩ := m
 obtain ⟨j,hj⟩ := Int.eq_ofNat_of_zero_le hv.item.1
 simp only at hj hmk
 subst hj
 subst hmk
 have hmi : (j : Int).toNat = j := rfl
 simp only at hpr hit
 obtain ⟨sv,iv,ov,cv,hc,h2,h3,h4,h5⟩ := hP.cells
 have c3 : w.cell? ⟨P.ptr,3,none⟩ = some (.map (some P.pm)) := cell_of hc 3
 have hpl := lt_of_heap hc
 have HP := Lib.hid hP
 have HV := Lib.hid hv
 have HT := Lib.hid ht
 have hk0 := hP.k0
 have hne : ∀ r i,tag w.heap.size ≠ (k,r,i) := fun r i => new_ne hok hk0
 clear hP hc h2 h3 h4 h5 hv ht
 obtain ⟨x,hx⟩ := hpr (by decide)
 have hM : takeM P ⟨2,ms,md,mp,j,mv⟩ = grantedM P ⟨2,ms,md,mp,j,mv⟩ := by simp [takeM]
 have HH : Hid (∀ w1,PRep tag k w1 P → TagOk tag w1 → Handled 111 tag k P ⟨2,ms,md,mp,j,mv⟩ w1 (takeM P ⟨2,ms,md,mp,j,mv⟩)) :=
  Lib.hid (fun w1 hP1 hok1 => by rw [hM]; exact granted_ok ⟨2,ms,md,mp,j,mv⟩ hP1 hok1 HT.out.wf HT.out.out HT.out.came)
 have HX := Lib.hid hx
 clear hM hx hit hpr
 unfold Post.val
 go_enter Try.func25,Try.ntmps25
 go_wp2_with (
  go_at_call 79
  refine (post_ok ⟨2,ms,md,mp,j,mv⟩ (HP.out.alloc hok _) (hok.alloc _) HV.out).mono ?_
  rintro e w1 ⟨rfl,hF1⟩
  have hFa : Fr (fun _ => False) tag tag w w1 := (Fr.alloc hok _).trans hF1
  have c3' : w1.cell? ⟨P.ptr,3,none⟩ = some (.map (some P.pm)) := hFa.cellF c3
  have e0 : w1.cell? ⟨w.heap.size,0,none⟩ = some (.int .i64 2) := hF1.cellF (by go_simp)
  have e1 : w1.cell? ⟨w.heap.size,1,none⟩ = some (.int .i64 ms) := hF1.cellF (by go_simp)
  have e2 : w1.cell? ⟨w.heap.size,2,none⟩ = some (.int .i64 md) := hF1.cellF (by go_simp)
  have e3 : w1.cell? ⟨w.heap.size,3,none⟩ = some (.int .i64 mp) := hF1.cellF (by go_simp)
  have e4 : w1.cell? ⟨w.heap.size,4,none⟩ = some (.int .i64 (j : Int)) := hF1.cellF (by go_simp)
  have e5 : w1.cell? ⟨w.heap.size,5,none⟩ = some (.int .i64 mv) := hF1.cellF (by go_simp)
  have HP1 := Lib.hid (HP.out.fr hFa (fun _ _ x => x))
  have hok1 := hFa.dom
  have HFa := Lib.hid hFa
  clear hFa hF1)
 have hlk : ∀ n,(Instr.lookup 110 (.map (some P.pm)) (.int .i64 mp) false).run Try.prog (w1.drewN n) = .ok (.pointer (some ⟨x.ptr,0,none⟩)) (w1.drewN n) := fun n => by
  have := look_prop (HP1.out.drewN hok1 n) mp
  rw [HX.out] at this
  exact this
 have hlk0 : (Instr.lookup 110 (.map (some P.pm)) (.int .i64 mp) false).run Try.prog w1 = .ok (.pointer (some ⟨x.ptr,0,none⟩)) w1 := by
  have := look_prop HP1.out mp
  rw [HX.out] at this
  exact this
 go_quiet (fail)
 go_wp2_with fail
 have hix := index_h2
 refine start_ (n:=7) (S:=fun w' => w'.cell? ⟨w.heap.size,0,none⟩ = some (.int .i64 2) ∧ w'.cell? ⟨w.heap.size,1,none⟩ = some (.int .i64 ms) ∧ w'.cell? ⟨w.heap.size,2,none⟩ = some (.int .i64 md) ∧ w'.cell? ⟨w.heap.size,3,none⟩ = some (.int .i64 mp) ∧ w'.cell? ⟨w.heap.size,4,none⟩ = some (.int .i64 (j : Int)) ∧ w'.cell? ⟨w.heap.size,5,none⟩ = some (.int .i64 mv)) (ds := [6]) #[f_,f_,f_,f_,f_,f_,f_] (by kernel_rfl) rfl rfl ⟨e0,e1,e2,e3,e4,e5⟩ (fun hHeld => ?_)
 refine pv_ (i:=1) (N:=some 37) (v:=?_) (a':=?_) rfl rfl (by kernel_rfl) (fun _ _ _ h => h) (Or.inl ⟨by rfl,?_⟩) ?_ ?_
 rotate_left;intro w';go_simp;with_reducible rfl;rotate_left;simp only [Act.put,sA_,sB_,sC_,i64_w,i32_w];rfl
 refine pv_ (i:=4) (N:=some 40) (v:=?_) (a':=?_) rfl rfl (by kernel_rfl) (fun _ _ _ h => h) (Or.inl ⟨by rfl,?_⟩) ?_ ?_
 rotate_left;intro w';go_simp;with_reducible rfl;rotate_left;simp only [Act.put,sA_,sB_,sC_,i64_w,i32_w];rfl
 refine tv_ (i:=2) (N:=some 38) (v:=?_) (a':=?_) rfl rfl (by kernel_rfl) (fun _ _ _ h => h) (Or.inl ⟨by rfl,?_⟩) hHeld ?_ ?_
 rotate_left;rintro w' ⟨s0,s1,s2,s3,s4,s5⟩;go_simp;with_reducible rfl;rotate_left;simp only [Act.put,sA_,sB_,sC_,i64_w,i32_w];rfl
 refine tv_ (i:=5) (N:=some 41) (v:=?_) (a':=?_) rfl rfl (by kernel_rfl) (fun _ _ _ h => h) (Or.inl ⟨by rfl,?_⟩) hHeld ?_ ?_
 rotate_left;rintro w' ⟨s0,s1,s2,s3,s4,s5⟩;go_simp;with_reducible rfl;rotate_left;simp only [Act.put,sA_,sB_,sC_,i64_w,i32_w];rfl
 refine one_ (i:=0) (N:=some 36) #[t_,t_,t_,f_,t_,t_,f_] rfl rfl (by kernel_rfl) (by decide) (fun K hK => ?_)
 refine goes_ Try.func80 (by kernel_rfl) rfl #[] (by rfl) rfl rfl (by simp) ?_
 refine (handlers_ok _).mono ?_
 rintro e w2 ⟨rfl,o,rfl⟩
 refine ⟨_,rfl,?_⟩
 refine hK.out _ _ ⟨(ca hHeld.1 _),(ca hHeld.2.1 _),(ca hHeld.2.2.1 _),(ca hHeld.2.2.2.1 _),(ca hHeld.2.2.2.2.1 _),(ca hHeld.2.2.2.2.2 _)⟩ (fun hHeld => ?_)
 clear hK K
 refine norm_ (a':=?_) ?_ ?_
 rotate_left
 ·show Act.put _ (some 36) _ = _
  simp only [Act.put,sA_,sB_,sC_,i64_w,i32_w]
  rfl
 refine tv_ (i:=3) (N:=some 39) (v:=?_) (a':=?_) rfl rfl (by kernel_rfl) (fun _ _ _ h => h) (Or.inl ⟨by rfl,?_⟩) hHeld ?_ ?_
 rotate_left;rintro w' ⟨s0,s1,s2,s3,s4,s5⟩;go_simp;with_reducible rfl;rotate_left;simp only [Act.put,sA_,sB_,sC_,i64_w,i32_w];rfl
 refine last_ (i:=6) (N:=some 42) #[t_,t_,t_,t_,t_,t_,t_] rfl rfl (by kernel_rfl) (by decide) (fun K hK => ?_)
 refine goesv_ Try.func111 rfl rfl #[.pointer (some ⟨P.ptr,0,none⟩),Post.val ⟨2,ms,md,mp,j,mv⟩] (by rfl) rfl rfl (by rfl) (by simp only [List.map_toArray,List.map_cons,List.map_nil]; rfl) ?_
 refine (Handled.calls (HH.out _ (((HP1.out.drewN hok1 nq).drew (TagOk.drewN hok1 nq)).alloc (TagOk.drew (TagOk.drewN hok1 nq)) o) (TagOk.alloc (TagOk.drew (TagOk.drewN hok1 nq)) o))).mono ?_
 rintro e w3 ⟨rfl,tag3,hP3,hF3⟩
 refine ⟨_,rfl,?_⟩
 refine hK.out _ _ ?_
 clear hK K
 refine norm_ (a':=?_) ?_ ?_
 rotate_left
 ·show Act.put _ (some 42) _ = _
  simp only [Act.put,sA_,sB_,sC_,i64_w,i32_w]
  rfl
 refine done_ (by kernel_rfl) ?_
 clear hHeld
 have HP3 := Lib.hid hP3
 have HF3 := Lib.hid ((((HFa.out.dN nq).dr.al o).mono (fun _ h => h.elim)).trans hF3)
 have HPT := Lib.hid (takeM_ptr P ⟨2,ms,md,mp,(j : Int),mv⟩)
 clear hP3 hF3 e0 e1 e2 e3 e4 e5 c3'
 go_wp2_with (
  go_at_call 72
  rw [← HPT.out]
  refine (told_ok HP3.out HF3.out.dom).mono ?_
  rintro e w4 ⟨ov,cv,rfl,ho,hc,hP4,hF4⟩
  have HO := Lib.hid ho
  have HC := Lib.hid hc
  have HP4 := Lib.hid hP4
  have HF4 := Lib.hid hF4
  clear ho hc hP4 hF4)
 go_ret3
 exact ⟨ov,cv,rfl,tag3,HO.out,HC.out,HP4.out,HF3.out.trans (HF4.out.mono (fun t (h : t = _) => by rw [h]))⟩
theorem take3_ok {tag : Nat → Tag} {k : Nat} {P : PlaceM} {w : World} (m : Post) (hP : PRep tag k w P) (hok : TagOk tag w) (hmk : m.kind = 3) (hv : Valid P m) (ht : Tame P)
  (hpr : m.kind = 2 ∨ m.kind = 3 → ∃ x,find P.props m.prop = some x) (hit : m.kind ≠ 2 → m.kind ≠ 3 → ∃ it,P.items[m.item.toNat]? = some (some it)) :
  Calls Try.prog 25 #[.pointer (some ⟨P.ptr,0,none⟩),Post.val m] w fun e w' => ∃ ov cv,e = .returned (.tuple #[ov,cv,.int .i64 0]) ∧
   ∃ tag',Row tag' (k,5,0) 49 6 w' ov (takeM P m).out.length (posts (takeM P m).out) ∧ Row tag' (k,6,0) 106 3 w' cv (takeM P m).came.length (cames (takeM P m).came) ∧
    PRep tag' k w' { takeM P m with out := [],came := [] } ∧ Fr (fun t => t.1 = k) tag tag' w w' := by
 obtain ⟨mk,ms,md,mp,mi,mv⟩ := m
 obtain ⟨j,hj⟩ := Int.eq_ofNat_of_zero_le hv.item.1
 simp only at hj hmk
 subst hj
 subst hmk
 have hmi : (j : Int).toNat = j := rfl
 simp only at hpr hit
 obtain ⟨sv,iv,ov,cv,hc,h2,h3,h4,h5⟩ := hP.cells
 have c3 : w.cell? ⟨P.ptr,3,none⟩ = some (.map (some P.pm)) := cell_of hc 3
 have hpl := lt_of_heap hc
 have HP := Lib.hid hP
 have HV := Lib.hid hv
 have HT := Lib.hid ht
 have hk0 := hP.k0
 have hne : ∀ r i,tag w.heap.size ≠ (k,r,i) := fun r i => new_ne hok hk0
 clear hP hc h2 h3 h4 h5 hv ht
 obtain ⟨x,hx⟩ := hpr (by decide)
 have hM : takeM P ⟨3,ms,md,mp,j,mv⟩ = refusedM P ⟨3,ms,md,mp,j,mv⟩ := by simp [takeM]
 have HH : Hid (∀ w1,PRep tag k w1 P → TagOk tag w1 → Handled 112 tag k P ⟨3,ms,md,mp,j,mv⟩ w1 (takeM P ⟨3,ms,md,mp,j,mv⟩)) :=
  Lib.hid (fun w1 hP1 hok1 => by rw [hM]; exact refused_ok ⟨3,ms,md,mp,j,mv⟩ hP1 hok1 HT.out.wf HT.out.out HT.out.came)
 have HX := Lib.hid hx
 clear hM hx hit hpr
 unfold Post.val
 go_enter Try.func25,Try.ntmps25
 go_wp2_with (
  go_at_call 79
  refine (post_ok ⟨3,ms,md,mp,j,mv⟩ (HP.out.alloc hok _) (hok.alloc _) HV.out).mono ?_
  rintro e w1 ⟨rfl,hF1⟩
  have hFa : Fr (fun _ => False) tag tag w w1 := (Fr.alloc hok _).trans hF1
  have c3' : w1.cell? ⟨P.ptr,3,none⟩ = some (.map (some P.pm)) := hFa.cellF c3
  have e0 : w1.cell? ⟨w.heap.size,0,none⟩ = some (.int .i64 3) := hF1.cellF (by go_simp)
  have e1 : w1.cell? ⟨w.heap.size,1,none⟩ = some (.int .i64 ms) := hF1.cellF (by go_simp)
  have e2 : w1.cell? ⟨w.heap.size,2,none⟩ = some (.int .i64 md) := hF1.cellF (by go_simp)
  have e3 : w1.cell? ⟨w.heap.size,3,none⟩ = some (.int .i64 mp) := hF1.cellF (by go_simp)
  have e4 : w1.cell? ⟨w.heap.size,4,none⟩ = some (.int .i64 (j : Int)) := hF1.cellF (by go_simp)
  have e5 : w1.cell? ⟨w.heap.size,5,none⟩ = some (.int .i64 mv) := hF1.cellF (by go_simp)
  have HP1 := Lib.hid (HP.out.fr hFa (fun _ _ x => x))
  have hok1 := hFa.dom
  have HFa := Lib.hid hFa
  clear hFa hF1)
 have hlk : ∀ n,(Instr.lookup 110 (.map (some P.pm)) (.int .i64 mp) false).run Try.prog (w1.drewN n) = .ok (.pointer (some ⟨x.ptr,0,none⟩)) (w1.drewN n) := fun n => by
  have := look_prop (HP1.out.drewN hok1 n) mp
  rw [HX.out] at this
  exact this
 have hlk0 : (Instr.lookup 110 (.map (some P.pm)) (.int .i64 mp) false).run Try.prog w1 = .ok (.pointer (some ⟨x.ptr,0,none⟩)) w1 := by
  have := look_prop HP1.out mp
  rw [HX.out] at this
  exact this
 go_quiet (fail)
 go_wp2_with fail
 have hix := index_h3
 refine start_ (n:=7) (S:=fun w' => w'.cell? ⟨w.heap.size,0,none⟩ = some (.int .i64 3) ∧ w'.cell? ⟨w.heap.size,1,none⟩ = some (.int .i64 ms) ∧ w'.cell? ⟨w.heap.size,2,none⟩ = some (.int .i64 md) ∧ w'.cell? ⟨w.heap.size,3,none⟩ = some (.int .i64 mp) ∧ w'.cell? ⟨w.heap.size,4,none⟩ = some (.int .i64 (j : Int)) ∧ w'.cell? ⟨w.heap.size,5,none⟩ = some (.int .i64 mv)) (ds := [6]) #[f_,f_,f_,f_,f_,f_,f_] (by kernel_rfl) rfl rfl ⟨e0,e1,e2,e3,e4,e5⟩ (fun hHeld => ?_)
 refine pv_ (i:=1) (N:=some 37) (v:=?_) (a':=?_) rfl rfl (by kernel_rfl) (fun _ _ _ h => h) (Or.inl ⟨by rfl,?_⟩) ?_ ?_
 rotate_left;intro w';go_simp;with_reducible rfl;rotate_left;simp only [Act.put,sA_,sB_,sC_,i64_w,i32_w];rfl
 refine pv_ (i:=4) (N:=some 40) (v:=?_) (a':=?_) rfl rfl (by kernel_rfl) (fun _ _ _ h => h) (Or.inl ⟨by rfl,?_⟩) ?_ ?_
 rotate_left;intro w';go_simp;with_reducible rfl;rotate_left;simp only [Act.put,sA_,sB_,sC_,i64_w,i32_w];rfl
 refine tv_ (i:=2) (N:=some 38) (v:=?_) (a':=?_) rfl rfl (by kernel_rfl) (fun _ _ _ h => h) (Or.inl ⟨by rfl,?_⟩) hHeld ?_ ?_
 rotate_left;rintro w' ⟨s0,s1,s2,s3,s4,s5⟩;go_simp;with_reducible rfl;rotate_left;simp only [Act.put,sA_,sB_,sC_,i64_w,i32_w];rfl
 refine tv_ (i:=5) (N:=some 41) (v:=?_) (a':=?_) rfl rfl (by kernel_rfl) (fun _ _ _ h => h) (Or.inl ⟨by rfl,?_⟩) hHeld ?_ ?_
 rotate_left;rintro w' ⟨s0,s1,s2,s3,s4,s5⟩;go_simp;with_reducible rfl;rotate_left;simp only [Act.put,sA_,sB_,sC_,i64_w,i32_w];rfl
 refine one_ (i:=0) (N:=some 36) #[t_,t_,t_,f_,t_,t_,f_] rfl rfl (by kernel_rfl) (by decide) (fun K hK => ?_)
 refine goes_ Try.func80 (by kernel_rfl) rfl #[] (by rfl) rfl rfl (by simp) ?_
 refine (handlers_ok _).mono ?_
 rintro e w2 ⟨rfl,o,rfl⟩
 refine ⟨_,rfl,?_⟩
 refine hK.out _ _ ⟨(ca hHeld.1 _),(ca hHeld.2.1 _),(ca hHeld.2.2.1 _),(ca hHeld.2.2.2.1 _),(ca hHeld.2.2.2.2.1 _),(ca hHeld.2.2.2.2.2 _)⟩ (fun hHeld => ?_)
 clear hK K
 refine norm_ (a':=?_) ?_ ?_
 rotate_left
 ·show Act.put _ (some 36) _ = _
  simp only [Act.put,sA_,sB_,sC_,i64_w,i32_w]
  rfl
 refine tv_ (i:=3) (N:=some 39) (v:=?_) (a':=?_) rfl rfl (by kernel_rfl) (fun _ _ _ h => h) (Or.inl ⟨by rfl,?_⟩) hHeld ?_ ?_
 rotate_left;rintro w' ⟨s0,s1,s2,s3,s4,s5⟩;go_simp;with_reducible rfl;rotate_left;simp only [Act.put,sA_,sB_,sC_,i64_w,i32_w];rfl
 refine last_ (i:=6) (N:=some 42) #[t_,t_,t_,t_,t_,t_,t_] rfl rfl (by kernel_rfl) (by decide) (fun K hK => ?_)
 refine goesv_ Try.func112 rfl rfl #[.pointer (some ⟨P.ptr,0,none⟩),Post.val ⟨3,ms,md,mp,j,mv⟩] (by rfl) rfl rfl (by rfl) (by simp only [List.map_toArray,List.map_cons,List.map_nil]; rfl) ?_
 refine (Handled.calls (HH.out _ (((HP1.out.drewN hok1 nq).drew (TagOk.drewN hok1 nq)).alloc (TagOk.drew (TagOk.drewN hok1 nq)) o) (TagOk.alloc (TagOk.drew (TagOk.drewN hok1 nq)) o))).mono ?_
 rintro e w3 ⟨rfl,tag3,hP3,hF3⟩
 refine ⟨_,rfl,?_⟩
 refine hK.out _ _ ?_
 clear hK K
 refine norm_ (a':=?_) ?_ ?_
 rotate_left
 ·show Act.put _ (some 42) _ = _
  simp only [Act.put,sA_,sB_,sC_,i64_w,i32_w]
  rfl
 refine done_ (by kernel_rfl) ?_
 clear hHeld
 have HP3 := Lib.hid hP3
 have HF3 := Lib.hid ((((HFa.out.dN nq).dr.al o).mono (fun _ h => h.elim)).trans hF3)
 have HPT := Lib.hid (takeM_ptr P ⟨3,ms,md,mp,(j : Int),mv⟩)
 clear hP3 hF3 e0 e1 e2 e3 e4 e5 c3'
 go_wp2_with (
  go_at_call 72
  rw [← HPT.out]
  refine (told_ok HP3.out HF3.out.dom).mono ?_
  rintro e w4 ⟨ov,cv,rfl,ho,hc,hP4,hF4⟩
  have HO := Lib.hid ho
  have HC := Lib.hid hc
  have HP4 := Lib.hid hP4
  have HF4 := Lib.hid hF4
  clear ho hc hP4 hF4)
 go_ret3
 exact ⟨ov,cv,rfl,tag3,HO.out,HC.out,HP4.out,HF3.out.trans (HF4.out.mono (fun t (h : t = _) => by rw [h]))⟩
theorem take4_ok {tag : Nat → Tag} {k : Nat} {P : PlaceM} {w : World} (m : Post) (hP : PRep tag k w P) (hok : TagOk tag w) (hmk : m.kind = 4) (hv : Valid P m) (ht : Tame P)
  (hpr : m.kind = 2 ∨ m.kind = 3 → ∃ x,find P.props m.prop = some x) (hit : m.kind ≠ 2 → m.kind ≠ 3 → ∃ it,P.items[m.item.toNat]? = some (some it)) :
  Calls Try.prog 25 #[.pointer (some ⟨P.ptr,0,none⟩),Post.val m] w fun e w' => ∃ ov cv,e = .returned (.tuple #[ov,cv,.int .i64 0]) ∧
   ∃ tag',Row tag' (k,5,0) 49 6 w' ov (takeM P m).out.length (posts (takeM P m).out) ∧ Row tag' (k,6,0) 106 3 w' cv (takeM P m).came.length (cames (takeM P m).came) ∧
    PRep tag' k w' { takeM P m with out := [],came := [] } ∧ Fr (fun t => t.1 = k) tag tag' w w' := by
 obtain ⟨mk,ms,md,mp,mi,mv⟩ := m
 obtain ⟨j,hj⟩ := Int.eq_ofNat_of_zero_le hv.item.1
 simp only at hj hmk
 subst hj
 subst hmk
 have hmi : (j : Int).toNat = j := rfl
 simp only at hpr hit
 obtain ⟨sv,iv,ov,cv,hc,h2,h3,h4,h5⟩ := hP.cells
 have c3 : w.cell? ⟨P.ptr,3,none⟩ = some (.map (some P.pm)) := cell_of hc 3
 have hpl := lt_of_heap hc
 have HP := Lib.hid hP
 have HV := Lib.hid hv
 have HT := Lib.hid ht
 have hk0 := hP.k0
 have hne : ∀ r i,tag w.heap.size ≠ (k,r,i) := fun r i => new_ne hok hk0
 clear hP hc h2 h3 h4 h5 hv ht
 obtain ⟨it,hi⟩ := hit (by decide) (by decide)
 rw [hmi] at hi
 have hM : takeM P ⟨4,ms,md,mp,j,mv⟩ = committedM P ⟨4,ms,md,mp,j,mv⟩ j it := by simp [takeM,hmi,item_some hi]
 have HH : Hid (∀ w1,PRep tag k w1 P → TagOk tag w1 → Handled 113 tag k P ⟨4,ms,md,mp,j,mv⟩ w1 (takeM P ⟨4,ms,md,mp,j,mv⟩)) :=
  Lib.hid (fun w1 hP1 hok1 => by rw [hM]; exact committed_ok ⟨4,ms,md,mp,j,mv⟩ hP1 hok1 hi rfl HT.out.out HT.out.came (HT.out.version _ _ hi).1 (HT.out.version _ _ hi).2 (HT.out.queue _ _ hi))
 clear hM hi hit hpr
 unfold Post.val
 go_enter Try.func25,Try.ntmps25
 go_wp2_with (
  go_at_call 79
  refine (post_ok ⟨4,ms,md,mp,j,mv⟩ (HP.out.alloc hok _) (hok.alloc _) HV.out).mono ?_
  rintro e w1 ⟨rfl,hF1⟩
  have hFa : Fr (fun _ => False) tag tag w w1 := (Fr.alloc hok _).trans hF1
  have c3' : w1.cell? ⟨P.ptr,3,none⟩ = some (.map (some P.pm)) := hFa.cellF c3
  have e0 : w1.cell? ⟨w.heap.size,0,none⟩ = some (.int .i64 4) := hF1.cellF (by go_simp)
  have e1 : w1.cell? ⟨w.heap.size,1,none⟩ = some (.int .i64 ms) := hF1.cellF (by go_simp)
  have e2 : w1.cell? ⟨w.heap.size,2,none⟩ = some (.int .i64 md) := hF1.cellF (by go_simp)
  have e3 : w1.cell? ⟨w.heap.size,3,none⟩ = some (.int .i64 mp) := hF1.cellF (by go_simp)
  have e4 : w1.cell? ⟨w.heap.size,4,none⟩ = some (.int .i64 (j : Int)) := hF1.cellF (by go_simp)
  have e5 : w1.cell? ⟨w.heap.size,5,none⟩ = some (.int .i64 mv) := hF1.cellF (by go_simp)
  have HP1 := Lib.hid (HP.out.fr hFa (fun _ _ x => x))
  have hok1 := hFa.dom
  have HFa := Lib.hid hFa
  clear hFa hF1)
 go_quiet (fail)
 go_wp2_with fail
 have hix := index_h4
 refine start_ (n:=7) (S:=fun w' => w'.cell? ⟨w.heap.size,0,none⟩ = some (.int .i64 4) ∧ w'.cell? ⟨w.heap.size,1,none⟩ = some (.int .i64 ms) ∧ w'.cell? ⟨w.heap.size,2,none⟩ = some (.int .i64 md) ∧ w'.cell? ⟨w.heap.size,3,none⟩ = some (.int .i64 mp) ∧ w'.cell? ⟨w.heap.size,4,none⟩ = some (.int .i64 (j : Int)) ∧ w'.cell? ⟨w.heap.size,5,none⟩ = some (.int .i64 mv)) (ds := [6]) #[f_,f_,f_,f_,f_,f_,f_] (by kernel_rfl) rfl rfl ⟨e0,e1,e2,e3,e4,e5⟩ (fun hHeld => ?_)
 refine pv_ (i:=1) (N:=some 37) (v:=?_) (a':=?_) rfl rfl (by kernel_rfl) (fun _ _ _ h => h) (Or.inl ⟨by rfl,?_⟩) ?_ ?_
 rotate_left;intro w';go_simp;with_reducible rfl;rotate_left;simp only [Act.put,sA_,sB_,sC_,i64_w,i32_w];rfl
 refine pv_ (i:=4) (N:=some 40) (v:=?_) (a':=?_) rfl rfl (by kernel_rfl) (fun _ _ _ h => h) (Or.inl ⟨by rfl,?_⟩) ?_ ?_
 rotate_left;intro w';go_simp;with_reducible rfl;rotate_left;simp only [Act.put,sA_,sB_,sC_,i64_w,i32_w];rfl
 refine tv_ (i:=2) (N:=some 38) (v:=?_) (a':=?_) rfl rfl (by kernel_rfl) (fun _ _ _ h => h) (Or.inl ⟨by rfl,?_⟩) hHeld ?_ ?_
 rotate_left;rintro w' ⟨s0,s1,s2,s3,s4,s5⟩;go_simp;with_reducible rfl;rotate_left;simp only [Act.put,sA_,sB_,sC_,i64_w,i32_w];rfl
 refine tv_ (i:=5) (N:=some 41) (v:=?_) (a':=?_) rfl rfl (by kernel_rfl) (fun _ _ _ h => h) (Or.inl ⟨by rfl,?_⟩) hHeld ?_ ?_
 rotate_left;rintro w' ⟨s0,s1,s2,s3,s4,s5⟩;go_simp;with_reducible rfl;rotate_left;simp only [Act.put,sA_,sB_,sC_,i64_w,i32_w];rfl
 refine one_ (i:=0) (N:=some 36) #[t_,t_,t_,f_,t_,t_,f_] rfl rfl (by kernel_rfl) (by decide) (fun K hK => ?_)
 refine goes_ Try.func80 (by kernel_rfl) rfl #[] (by rfl) rfl rfl (by simp) ?_
 refine (handlers_ok _).mono ?_
 rintro e w2 ⟨rfl,o,rfl⟩
 refine ⟨_,rfl,?_⟩
 refine hK.out _ _ ⟨(ca hHeld.1 _),(ca hHeld.2.1 _),(ca hHeld.2.2.1 _),(ca hHeld.2.2.2.1 _),(ca hHeld.2.2.2.2.1 _),(ca hHeld.2.2.2.2.2 _)⟩ (fun hHeld => ?_)
 clear hK K
 refine norm_ (a':=?_) ?_ ?_
 rotate_left
 ·show Act.put _ (some 36) _ = _
  simp only [Act.put,sA_,sB_,sC_,i64_w,i32_w]
  rfl
 refine tv_ (i:=3) (N:=some 39) (v:=?_) (a':=?_) rfl rfl (by kernel_rfl) (fun _ _ _ h => h) (Or.inl ⟨by rfl,?_⟩) hHeld ?_ ?_
 rotate_left;rintro w' ⟨s0,s1,s2,s3,s4,s5⟩;go_simp;with_reducible rfl;rotate_left;simp only [Act.put,sA_,sB_,sC_,i64_w,i32_w];rfl
 refine last_ (i:=6) (N:=some 42) #[t_,t_,t_,t_,t_,t_,t_] rfl rfl (by kernel_rfl) (by decide) (fun K hK => ?_)
 refine goesv_ Try.func113 rfl rfl #[.pointer (some ⟨P.ptr,0,none⟩),Post.val ⟨4,ms,md,mp,j,mv⟩] (by rfl) rfl rfl (by rfl) (by simp only [List.map_toArray,List.map_cons,List.map_nil]; rfl) ?_
 refine (Handled.calls (HH.out _ (((HP1.out.drewN hok1 nq).drew (TagOk.drewN hok1 nq)).alloc (TagOk.drew (TagOk.drewN hok1 nq)) o) (TagOk.alloc (TagOk.drew (TagOk.drewN hok1 nq)) o))).mono ?_
 rintro e w3 ⟨rfl,tag3,hP3,hF3⟩
 refine ⟨_,rfl,?_⟩
 refine hK.out _ _ ?_
 clear hK K
 refine norm_ (a':=?_) ?_ ?_
 rotate_left
 ·show Act.put _ (some 42) _ = _
  simp only [Act.put,sA_,sB_,sC_,i64_w,i32_w]
  rfl
 refine done_ (by kernel_rfl) ?_
 clear hHeld
 have HP3 := Lib.hid hP3
 have HF3 := Lib.hid ((((HFa.out.dN nq).dr.al o).mono (fun _ h => h.elim)).trans hF3)
 have HPT := Lib.hid (takeM_ptr P ⟨4,ms,md,mp,(j : Int),mv⟩)
 clear hP3 hF3 e0 e1 e2 e3 e4 e5 c3'
 go_wp2_with (
  go_at_call 72
  rw [← HPT.out]
  refine (told_ok HP3.out HF3.out.dom).mono ?_
  rintro e w4 ⟨ov,cv,rfl,ho,hc,hP4,hF4⟩
  have HO := Lib.hid ho
  have HC := Lib.hid hc
  have HP4 := Lib.hid hP4
  have HF4 := Lib.hid hF4
  clear ho hc hP4 hF4)
 go_ret3
 exact ⟨ov,cv,rfl,tag3,HO.out,HC.out,HP4.out,HF3.out.trans (HF4.out.mono (fun t (h : t = _) => by rw [h]))⟩
theorem take5_ok {tag : Nat → Tag} {k : Nat} {P : PlaceM} {w : World} (m : Post) (hP : PRep tag k w P) (hok : TagOk tag w) (hmk : m.kind = 5) (hv : Valid P m) (ht : Tame P)
  (hpr : m.kind = 2 ∨ m.kind = 3 → ∃ x,find P.props m.prop = some x) (hit : m.kind ≠ 2 → m.kind ≠ 3 → ∃ it,P.items[m.item.toNat]? = some (some it)) :
  Calls Try.prog 25 #[.pointer (some ⟨P.ptr,0,none⟩),Post.val m] w fun e w' => ∃ ov cv,e = .returned (.tuple #[ov,cv,.int .i64 0]) ∧
   ∃ tag',Row tag' (k,5,0) 49 6 w' ov (takeM P m).out.length (posts (takeM P m).out) ∧ Row tag' (k,6,0) 106 3 w' cv (takeM P m).came.length (cames (takeM P m).came) ∧
    PRep tag' k w' { takeM P m with out := [],came := [] } ∧ Fr (fun t => t.1 = k) tag tag' w w' := by
 obtain ⟨mk,ms,md,mp,mi,mv⟩ := m
 obtain ⟨j,hj⟩ := Int.eq_ofNat_of_zero_le hv.item.1
 simp only at hj hmk
 subst hj
 subst hmk
 have hmi : (j : Int).toNat = j := rfl
 simp only at hpr hit
 obtain ⟨sv,iv,ov,cv,hc,h2,h3,h4,h5⟩ := hP.cells
 have c3 : w.cell? ⟨P.ptr,3,none⟩ = some (.map (some P.pm)) := cell_of hc 3
 have hpl := lt_of_heap hc
 have HP := Lib.hid hP
 have HV := Lib.hid hv
 have HT := Lib.hid ht
 have hk0 := hP.k0
 have hne : ∀ r i,tag w.heap.size ≠ (k,r,i) := fun r i => new_ne hok hk0
 clear hP hc h2 h3 h4 h5 hv ht
 obtain ⟨it,hi⟩ := hit (by decide) (by decide)
 rw [hmi] at hi
 have hM : takeM P ⟨5,ms,md,mp,j,mv⟩ = freedM P ⟨5,ms,md,mp,j,mv⟩ j it := by simp [takeM,hmi,item_some hi]
 have HH : Hid (∀ w1,PRep tag k w1 P → TagOk tag w1 → Handled 114 tag k P ⟨5,ms,md,mp,j,mv⟩ w1 (takeM P ⟨5,ms,md,mp,j,mv⟩)) :=
  Lib.hid (fun w1 hP1 hok1 => by rw [hM]; exact freed_ok ⟨5,ms,md,mp,j,mv⟩ hP1 hok1 hi rfl HT.out.out (HT.out.queue _ _ hi))
 clear hM hi hit hpr
 unfold Post.val
 go_enter Try.func25,Try.ntmps25
 go_wp2_with (
  go_at_call 79
  refine (post_ok ⟨5,ms,md,mp,j,mv⟩ (HP.out.alloc hok _) (hok.alloc _) HV.out).mono ?_
  rintro e w1 ⟨rfl,hF1⟩
  have hFa : Fr (fun _ => False) tag tag w w1 := (Fr.alloc hok _).trans hF1
  have c3' : w1.cell? ⟨P.ptr,3,none⟩ = some (.map (some P.pm)) := hFa.cellF c3
  have e0 : w1.cell? ⟨w.heap.size,0,none⟩ = some (.int .i64 5) := hF1.cellF (by go_simp)
  have e1 : w1.cell? ⟨w.heap.size,1,none⟩ = some (.int .i64 ms) := hF1.cellF (by go_simp)
  have e2 : w1.cell? ⟨w.heap.size,2,none⟩ = some (.int .i64 md) := hF1.cellF (by go_simp)
  have e3 : w1.cell? ⟨w.heap.size,3,none⟩ = some (.int .i64 mp) := hF1.cellF (by go_simp)
  have e4 : w1.cell? ⟨w.heap.size,4,none⟩ = some (.int .i64 (j : Int)) := hF1.cellF (by go_simp)
  have e5 : w1.cell? ⟨w.heap.size,5,none⟩ = some (.int .i64 mv) := hF1.cellF (by go_simp)
  have HP1 := Lib.hid (HP.out.fr hFa (fun _ _ x => x))
  have hok1 := hFa.dom
  have HFa := Lib.hid hFa
  clear hFa hF1)
 go_quiet (fail)
 go_wp2_with fail
 have hix := index_h5
 refine start_ (n:=7) (S:=fun w' => w'.cell? ⟨w.heap.size,0,none⟩ = some (.int .i64 5) ∧ w'.cell? ⟨w.heap.size,1,none⟩ = some (.int .i64 ms) ∧ w'.cell? ⟨w.heap.size,2,none⟩ = some (.int .i64 md) ∧ w'.cell? ⟨w.heap.size,3,none⟩ = some (.int .i64 mp) ∧ w'.cell? ⟨w.heap.size,4,none⟩ = some (.int .i64 (j : Int)) ∧ w'.cell? ⟨w.heap.size,5,none⟩ = some (.int .i64 mv)) (ds := [6]) #[f_,f_,f_,f_,f_,f_,f_] (by kernel_rfl) rfl rfl ⟨e0,e1,e2,e3,e4,e5⟩ (fun hHeld => ?_)
 refine pv_ (i:=1) (N:=some 37) (v:=?_) (a':=?_) rfl rfl (by kernel_rfl) (fun _ _ _ h => h) (Or.inl ⟨by rfl,?_⟩) ?_ ?_
 rotate_left;intro w';go_simp;with_reducible rfl;rotate_left;simp only [Act.put,sA_,sB_,sC_,i64_w,i32_w];rfl
 refine pv_ (i:=4) (N:=some 40) (v:=?_) (a':=?_) rfl rfl (by kernel_rfl) (fun _ _ _ h => h) (Or.inl ⟨by rfl,?_⟩) ?_ ?_
 rotate_left;intro w';go_simp;with_reducible rfl;rotate_left;simp only [Act.put,sA_,sB_,sC_,i64_w,i32_w];rfl
 refine tv_ (i:=2) (N:=some 38) (v:=?_) (a':=?_) rfl rfl (by kernel_rfl) (fun _ _ _ h => h) (Or.inl ⟨by rfl,?_⟩) hHeld ?_ ?_
 rotate_left;rintro w' ⟨s0,s1,s2,s3,s4,s5⟩;go_simp;with_reducible rfl;rotate_left;simp only [Act.put,sA_,sB_,sC_,i64_w,i32_w];rfl
 refine tv_ (i:=5) (N:=some 41) (v:=?_) (a':=?_) rfl rfl (by kernel_rfl) (fun _ _ _ h => h) (Or.inl ⟨by rfl,?_⟩) hHeld ?_ ?_
 rotate_left;rintro w' ⟨s0,s1,s2,s3,s4,s5⟩;go_simp;with_reducible rfl;rotate_left;simp only [Act.put,sA_,sB_,sC_,i64_w,i32_w];rfl
 refine one_ (i:=0) (N:=some 36) #[t_,t_,t_,f_,t_,t_,f_] rfl rfl (by kernel_rfl) (by decide) (fun K hK => ?_)
 refine goes_ Try.func80 (by kernel_rfl) rfl #[] (by rfl) rfl rfl (by simp) ?_
 refine (handlers_ok _).mono ?_
 rintro e w2 ⟨rfl,o,rfl⟩
 refine ⟨_,rfl,?_⟩
 refine hK.out _ _ ⟨(ca hHeld.1 _),(ca hHeld.2.1 _),(ca hHeld.2.2.1 _),(ca hHeld.2.2.2.1 _),(ca hHeld.2.2.2.2.1 _),(ca hHeld.2.2.2.2.2 _)⟩ (fun hHeld => ?_)
 clear hK K
 refine norm_ (a':=?_) ?_ ?_
 rotate_left
 ·show Act.put _ (some 36) _ = _
  simp only [Act.put,sA_,sB_,sC_,i64_w,i32_w]
  rfl
 refine tv_ (i:=3) (N:=some 39) (v:=?_) (a':=?_) rfl rfl (by kernel_rfl) (fun _ _ _ h => h) (Or.inl ⟨by rfl,?_⟩) hHeld ?_ ?_
 rotate_left;rintro w' ⟨s0,s1,s2,s3,s4,s5⟩;go_simp;with_reducible rfl;rotate_left;simp only [Act.put,sA_,sB_,sC_,i64_w,i32_w];rfl
 refine last_ (i:=6) (N:=some 42) #[t_,t_,t_,t_,t_,t_,t_] rfl rfl (by kernel_rfl) (by decide) (fun K hK => ?_)
 refine goesv_ Try.func114 rfl rfl #[.pointer (some ⟨P.ptr,0,none⟩),Post.val ⟨5,ms,md,mp,j,mv⟩] (by rfl) rfl rfl (by rfl) (by simp only [List.map_toArray,List.map_cons,List.map_nil]; rfl) ?_
 refine (Handled.calls (HH.out _ (((HP1.out.drewN hok1 nq).drew (TagOk.drewN hok1 nq)).alloc (TagOk.drew (TagOk.drewN hok1 nq)) o) (TagOk.alloc (TagOk.drew (TagOk.drewN hok1 nq)) o))).mono ?_
 rintro e w3 ⟨rfl,tag3,hP3,hF3⟩
 refine ⟨_,rfl,?_⟩
 refine hK.out _ _ ?_
 clear hK K
 refine norm_ (a':=?_) ?_ ?_
 rotate_left
 ·show Act.put _ (some 42) _ = _
  simp only [Act.put,sA_,sB_,sC_,i64_w,i32_w]
  rfl
 refine done_ (by kernel_rfl) ?_
 clear hHeld
 have HP3 := Lib.hid hP3
 have HF3 := Lib.hid ((((HFa.out.dN nq).dr.al o).mono (fun _ h => h.elim)).trans hF3)
 have HPT := Lib.hid (takeM_ptr P ⟨5,ms,md,mp,(j : Int),mv⟩)
 clear hP3 hF3 e0 e1 e2 e3 e4 e5 c3'
 go_wp2_with (
  go_at_call 72
  rw [← HPT.out]
  refine (told_ok HP3.out HF3.out.dom).mono ?_
  rintro e w4 ⟨ov,cv,rfl,ho,hc,hP4,hF4⟩
  have HO := Lib.hid ho
  have HC := Lib.hid hc
  have HP4 := Lib.hid hP4
  have HF4 := Lib.hid hF4
  clear ho hc hP4 hF4)
 go_ret3
 exact ⟨ov,cv,rfl,tag3,HO.out,HC.out,HP4.out,HF3.out.trans (HF4.out.mono (fun t (h : t = _) => by rw [h]))⟩
end Go.Proofs.Ytclkokkppgchfaa
namespace Go.Proofs.Ytclkokkppgchfaa
open Go.RowKit Go.Ng
theorem take_ok {tag : Nat → Tag} {k : Nat} {P : PlaceM} {w : World} (m : Post) (hP : PRep tag k w P) (hok : TagOk tag w) (hv : Valid P m) (ht : Tame P)
  (hpr : m.kind = 2 ∨ m.kind = 3 → ∃ x,find P.props m.prop = some x) (hit : m.kind ≠ 2 → m.kind ≠ 3 → ∃ it,P.items[m.item.toNat]? = some (some it)) :
  Calls Try.prog 25 #[.pointer (some ⟨P.ptr,0,none⟩),Post.val m] w fun e w' => ∃ ov cv,e = .returned (.tuple #[ov,cv,.int .i64 0]) ∧
   ∃ tag',Row tag' (k,5,0) 49 6 w' ov (takeM P m).out.length (posts (takeM P m).out) ∧ Row tag' (k,6,0) 106 3 w' cv (takeM P m).came.length (cames (takeM P m).came) ∧
    PRep tag' k w' { takeM P m with out := [],came := [] } ∧ Fr (fun t => t.1 = k) tag tag' w w' := by
 rcases (show m.kind = 1 ∨ m.kind = 2 ∨ m.kind = 3 ∨ m.kind = 4 ∨ m.kind = 5 by have := hv.kind; omega) with e | e | e | e | e
 ·exact take1_ok m hP hok e hv ht hpr hit
 ·exact take2_ok m hP hok e hv ht hpr hit
 ·exact take3_ok m hP hok e hv ht hpr hit
 ·exact take4_ok m hP hok e hv ht hpr hit
 ·exact take5_ok m hP hok e hv ht hpr hit
end Go.Proofs.Ytclkokkppgchfaa
namespace Go.Ng
theorem Fr.fresh {tag tag' : Nat → Tag} {w w' : World} {t : Tag} (h : Fr (· = t) tag tag' w w') (hn : ∀ b,b < w.heap.size → tag b ≠ t) : Fr (fun _ => False) tag tag' w w' :=
 ⟨h.os,h.tape,h.output,h.size,h.same,fun b hb _ => h.block b hb (hn b hb),h.dom⟩
theorem fresh_tag (tag : Nat → Tag) (n : Nat) (k r : Nat) : ∃ t : Tag,t.1 = k ∧ t.2.1 = r ∧ ∀ b,b < n → tag b ≠ t := by
 have : ∃ N : Int,∀ b,b < n → (tag b).2.2 < N := by
  induction n with
  | zero => exact ⟨0,by omega⟩
  | succ n ih =>
   obtain ⟨N,hN⟩ := ih
   refine ⟨max N ((tag n).2.2 + 1),fun b hb => ?_⟩
   by_cases e : b = n
   ·subst e; omega
   ·have := hN b (by omega); omega
 obtain ⟨N,hN⟩ := this
 refine ⟨(k,r,N),rfl,rfl,fun b hb e => ?_⟩
 have := hN b hb
 rw [e] at this
 simp at this
end Go.Ng
namespace Go.Proofs.Ytclkokkppgchfaa
open Go.RowKit Go.Ng Go.Proofs.YtclkokkppgchfaaW.PrintLast
section
variable {tag : Nat → Tag} {k j : Nat} {P : PlaceM} {it : ItemM} {w : World}
theorem own_ok (hP : PRep tag k w P) (hj : P.items[j]? = some (some it)) :
  Calls Try.prog 120 #[.pointer (some ⟨P.ptr,0,none⟩),.int .i64 (j : Int)] w fun e w' => e = .returned (.pointer (some ⟨it.ptr,0,none⟩)) ∧ w' = w := by
 obtain ⟨sv,iv,ov,cv,hc,h2,h3,h4,h5⟩ := hP.cells
 obtain ⟨b,cap,rfl,hl1,hl2,hcell⟩ := PRep.item_cell h3 hj
 unfold maxLen at hl2
 have hjl := (List.getElem?_eq_some_iff.1 hj).1
 have c2 : w.cell? ⟨P.ptr,2,none⟩ = some (.slice (some ⟨b,0,none⟩) P.items.length cap) := cell_of hc 2
 have i1 : (0 : Int) ≤ (j : Int) := by omega
 have i2 : (j : Int) < (P.items.length : Int) := by omega
 clear hP hc h2 h3 h4 h5 hj
 go_enter Try.func120,Try.ntmps120
 go_wp2
 go_ret
 exact ⟨rfl,rfl⟩
theorem version_ok (hP : PRep tag k w P) (hj : P.items[j]? = some (some it)) :
  Calls Try.prog 88 #[.pointer (some ⟨P.ptr,0,none⟩),.int .i64 (j : Int)] w fun e w' => e = .returned (.tuple #[.int .i64 it.version,.int .i64 0]) ∧ w' = w := by
 have ho := own_ok hP hj
 obtain ⟨qv,hic,hqr⟩ := (hP.items j it hj).cells
 have t4 : w.cell? ⟨it.ptr,4,none⟩ = some (.int .i64 it.version) := cell_of hic 4
 have HO := Lib.hid ho
 clear hP hic hqr ho hj
 go_enter Try.func88,Try.ntmps88
 go_wp2_with (go_at_call 120; refine HO.out.mono ?_; rintro e w' ⟨rfl,rfl⟩)
 go_ret2
 exact ⟨rfl,rfl⟩
theorem holder_ok (hP : PRep tag k w P) (hj : P.items[j]? = some (some it)) :
  Calls Try.prog 89 #[.pointer (some ⟨P.ptr,0,none⟩),.int .i64 (j : Int)] w fun e w' => e = .returned (.tuple #[.int .i64 (if it.held = true then it.lk.prop else -1),.int .i64 0]) ∧ w' = w := by
 have ho := own_ok hP hj
 obtain ⟨qv,hic,hqr⟩ := (hP.items j it hj).cells
 have t0 : w.cell? ⟨it.ptr,0,none⟩ = some (.bool it.held) := cell_of hic 0
 have t1 : w.cell? ⟨it.ptr,1,none⟩ = some (.int .i64 it.lk.prop) := cell_of hic 1
 have HO := Lib.hid ho
 clear hP hic hqr ho hj
 cases hh : it.held
 ·rw [hh] at t0
  go_enter Try.func89,Try.ntmps89
  go_wp2_with (go_at_call 120; refine HO.out.mono ?_; rintro e w' ⟨rfl,rfl⟩)
  go_ret2
  exact ⟨rfl,rfl⟩
 ·rw [hh] at t0
  go_enter Try.func89,Try.ntmps89
  go_wp2_with (go_at_call 120; refine HO.out.mono ?_; rintro e w' ⟨rfl,rfl⟩)
  go_ret2
  exact ⟨rfl,rfl⟩
theorem status_ok (n : Int) (hP : PRep tag k w P) :
  Calls Try.prog 45 #[.pointer (some ⟨P.ptr,0,none⟩),.int .i64 n] w fun e w' => e = .returned (match find P.props n with | some x => .tuple #[.int .i64 x.state,.int .i64 0] | none => .tuple #[.int .i64 0,.int .i64 3]) ∧ w' = w := by
 have hlk := look_prop hP n
 obtain ⟨sv,iv,ov,cv,hc,h2,h3,h4,h5⟩ := hP.cells
 have c3 : w.cell? ⟨P.ptr,3,none⟩ = some (.map (some P.pm)) := cell_of hc 3
 cases hf : find P.props n with
 | none =>
  rw [hf] at hlk
  simp only [propPtr] at hlk
  clear hP hc h2 h3 h4 h5 hf
  go_enter Try.func45,Try.ntmps45
  go_wp2
  go_ret2
  exact ⟨rfl,rfl⟩
 | some x =>
  rw [hf] at hlk
  simp only [propPtr] at hlk
  obtain ⟨xv,hxc,hxr⟩ := (hP.props _ x (find_mem hf)).cells
  have x1 : w.cell? ⟨x.ptr,1,none⟩ = some (.int .i64 x.state) := cell_of hxc 1
  clear hP hc h2 h3 h4 h5 hf hxc hxr
  go_enter Try.func45,Try.ntmps45
  go_wp2
  go_ret2
  exact ⟨rfl,rfl⟩
end
theorem ints_snoc (l : List Int) (n : Int) : ints (l ++ [n]) = ints l ++ [.int .i64 n] := by simp [ints]
theorem pwaits_ok {tag : Nat → Tag} {k j : Nat} {P : PlaceM} {it : ItemM} {w : World} {t : Tag} (hP : PRep tag k w P) (hok : TagOk tag w) (hj : P.items[j]? = some (some it)) (hq : it.queue.length ≤ 100000) (ht : ∀ b,b < w.heap.size → tag b ≠ t) :
  Calls Try.prog 90 #[.pointer (some ⟨P.ptr,0,none⟩),.int .i64 (j : Int)] w fun e w' => ∃ v,e = .returned (.tuple #[v,.int .i64 0]) ∧ ∃ tag',Row tag' t 3 1 w' v it.queue.length (ints (it.queue.map (·.prop))) ∧ Fr (fun _ => False) tag tag' w w' := by
 obtain ⟨i0,hi,hz0,hz1,hz2⟩ := info_parts Try.info3
 have ho := own_ok hP hj
 obtain ⟨qv,hic,hqr⟩ := (hP.items j it hj).cells
 obtain ⟨A,cap,rfl,hl1,hl2⟩ := hqr.form
 unfold maxLen at hl2
 have t3 : w.cell? ⟨it.ptr,3,none⟩ = some (.slice A it.queue.length cap) := cell_of hic 3
 have HO := Lib.hid ho
 have HQ := Lib.hid hqr
 clear hP hic hqr ho hj
 go_enter Try.func90,Try.ntmps90
 go_wp2_with (go_at_call 120; refine HO.out.mono ?_; rintro e w' ⟨rfl,hw⟩; replace hw := hw.symm; subst hw)
 go_loopw [23,7] (fun i v wr => ∃ n : Nat,n ≤ it.queue.length ∧ i = .int .i64 n ∧ ∃ A2 cap2,v = .slice A2 n cap2 ∧ ∃ tagr,Hid (Row tagr t 3 1 wr (.slice A2 n cap2) n (ints ((it.queue.take n).map (·.prop)))) ∧ Hid (Fr (· = t) tag tagr w wr)) (fun i _ _ => it.queue.length - (intOf i).toNat)
 case atStart => exact ⟨0,Nat.zero_le _,rfl,none,0,rfl,tag,Lib.hid (Row.nil _ _ _ _ _),Lib.hid (Fr.refl hok)⟩
 case round =>
  obtain ⟨n,hn,rfl,A2,cap2,rfl,tagr,HR,HG⟩ := hrel
  have HF := Lib.hid (HG.out.fresh ht)
  by_cases hlt : n < it.queue.length
  ·obtain ⟨⟨ap,al⟩,hx⟩ : ∃ c,it.queue[n]? = some c := ⟨_,List.getElem?_eq_getElem hlt⟩
   obtain ⟨qb,rfl,hbt,hb5,hce⟩ := Row.elem (enc := Asker.cells) HQ.out (fun _ => rfl) (by decide) hx
   have e0 : wr.cell? ⟨qb,n * 2,none⟩ = some (.int .i64 ap) := HF.out.cellF (hce 0 _ rfl)
   have e1 : wr.cell? ⟨qb,n * 2 + 1,none⟩ = some (.int .i64 al) := HF.out.cellF (hce 1 _ rfl)
   have htk : it.queue.take (n + 1) = it.queue.take n ++ [⟨ap,al⟩] := by
    rw [List.take_succ_eq_append_getElem hlt]
    congr 2
    exact (List.getElem?_eq_some_iff.1 hx).2
   have HT := Lib.hid htk
   have i5 : (0 : Int) ≤ (n : Int) := by omega
   have i6 : (n : Int) < (it.queue.length : Int) := by omega
   have hokr := HF.out.dom
   clear hx hce htk
   go_wp2_with (at_builtin; refine append_list rfl (.tmp 27) (.tmp 30) 22 rfl (by rfl) (by rfl) ((HR.out.alloc _).alloc _) ((hokr.alloc _).alloc _) Try.underlying22 hi hz0 hz1 hz2 rfl (by decide) [.int .i64 ap] rfl (news_at (heap_alloc_at1 _ _ _)) (by simp [Value.oneCell']) (by decide) (by unfold maxLen; omega) (by omega) ?_; intro g cap3 w3 tag3 hrow hfr)
   go_roundw
   case rel =>
    refine ⟨n + 1,by omega,by go_num,_,_,rfl,tag3,Lib.hid ?_,Lib.hid (((HG.out.al _).al _).trans hfr)⟩
    rw [HT.out,List.map_append,List.map_cons,List.map_nil,ints_snoc]
    exact hrow
   case measure => simp [intOf]; omega
  ·have : n = it.queue.length := by omega
   subst this
   go_wp2
   go_ret2
   refine ⟨_,rfl,tagr,?_,HF.out⟩
   have := HR.out
   rw [List.take_length] at this
   exact this
end Go.Proofs.Ytclkokkppgchfaa
namespace Go.Ng
theorem Rd.elem {sz : Nat} {w : World} {v : Value} {n : Nat} {α : Type} {enc : α → List Value} {l : List α} (h : Rd sz w v n (l.flatMap enc)) (hl : ∀ x,(enc x).length = sz) (hsz : 0 < sz)
  {j : Nat} {x : α} (hx : l[j]? = some x) : ∃ b off cap,v = .slice (some ⟨b,off,none⟩) n cap ∧ n ≤ cap ∧ cap ≤ maxLen ∧ ∀ i u,(enc x)[i]? = some u → w.cell? ⟨b,off + (j * sz + i),none⟩ = some u := by
 have hj := (List.getElem?_eq_some_iff.1 hx).1
 rcases h.form with ⟨rfl,rfl⟩ | ⟨b,off,cap,rfl,h2,h3,h4⟩
 ·have := h.len
  rw [flat_len enc sz hl] at this
  have h0 : l.length * sz = 0 := by omega
  rcases Nat.mul_eq_zero.1 h0 with h0 | h0 <;> omega
 ·refine ⟨b,off,cap,rfl,h2,h3,fun i u hu => h4 _ _ ?_⟩
  have hi : i < sz := by rw [← hl x]; exact (List.getElem?_eq_some_iff.1 hu).1
  rw [flat_get enc sz hl i hi l j x hx]; exact hu
end Go.Ng
namespace Go.Proofs.Ytclkokkppgchfaa
open Go.RowKit Go.Ng Go.Proofs.YtclkokkppgchfaaW.PrintLast
def okFrom (n : Nat) : Int → List Clm → Bool
 | _,[] => true
 | last,c :: l => decide (last < c.item) && decide (c.item < n) && decide (0 ≤ c.version) && okFrom n c.item l
def claimedB (n : Nat) (l : List Clm) : Bool := decide (1 ≤ l.length) && decide (l.length ≤ 64) && okFrom n (-1) l
theorem claimed_ok {tag : Nat → Tag} (n : Nat) (A : Option Addr) (cap0 : Nat) (l : List Clm) {v : Value} (w : World) (hr : Rd 2 w v l.length (claims l)) (hok : TagOk tag w) (hn : n ≤ 1000000) :
  Calls Try.prog 69 #[.slice A n cap0,v] w fun e w' => e = .returned (.bool (claimedB n l)) ∧ Fr (fun _ => False) tag tag w w' := by
 obtain ⟨vA,vcap,rfl,h1,h2⟩ := hr.slice
 unfold maxLen at h2
 have HR := Lib.hid hr
 clear hr
 by_cases hb : 1 ≤ l.length ∧ l.length ≤ 64
 ·have hcb : claimedB n l = okFrom n (-1) l := by simp [claimedB,hb]
  have HCB := Lib.hid hcb
  obtain ⟨hb1,hb2⟩ := hb
  have hi1 : (1 : Int) ≤ (l.length : Int) := by omega
  have hi2 : (l.length : Int) ≤ 64 := by omega
  clear hcb
  go_enter Try.func69,Try.ntmps69
  go_wp2
  go_loopw [18,5] (fun i la wr => ∃ (j : Nat) (last : Int),j ≤ l.length ∧ i = .int .i64 j ∧ la = .int .i64 last ∧ Hid (okFrom n (-1) l = okFrom n last (l.drop j)) ∧ Hid (Fr (fun _ => False) tag tag w wr)) (fun i _ _ => l.length - (intOf i).toNat)
  case atStart => exact ⟨0,-1,Nat.zero_le _,rfl,rfl,Lib.hid rfl,Lib.hid (Fr.refl hok)⟩
  case round =>
   obtain ⟨j,last,hj,rfl,rfl,HO,HF⟩ := hrel
   by_cases hlt : j < l.length
   ·obtain ⟨⟨ci,cver⟩,hx⟩ : ∃ c,l[j]? = some c := ⟨_,List.getElem?_eq_getElem hlt⟩
    obtain ⟨b,off,cap,hv,_,_,hce⟩ := Rd.elem (enc := Clm.cells) HR.out (fun _ => rfl) (by decide) hx
    injection hv with hv _ hv2
    subst hv hv2
    have e0 : wr.cell? ⟨b,off + j * 2,none⟩ = some (.int .i64 ci) := HF.out.cellF (hce 0 _ rfl)
    have e1 : wr.cell? ⟨b,off + j * 2 + 1,none⟩ = some (.int .i64 cver) := HF.out.cellF (hce 1 _ rfl)
    have hdr : l.drop j = ⟨ci,cver⟩ :: l.drop (j + 1) := by
     rw [List.drop_eq_getElem_cons hlt]
     congr 1
     exact (List.getElem?_eq_some_iff.1 hx).2
    have ho := HO.out
    rw [hdr] at ho
    have HO2 := Lib.hid ho
    have i5 : (0 : Int) ≤ (j : Int) := by omega
    have i6 : (j : Int) < (l.length : Int) := by omega
    have hokr := HF.out.dom
    clear hx hce hdr ho HO
    cases hb1 : decide (ci ≤ last)
    ·cases hb2 : decide ((n : Int) ≤ ci)
     ·cases hb3 : decide (cver < 0)
      ·go_wp2
       go_roundw
       case rel =>
        refine ⟨j + 1,ci,by omega,by go_num,rfl,Lib.hid ?_,Lib.hid (HF.out.al _)⟩
        rw [HO2.out]
        simp at hb1 hb2 hb3
        simp [okFrom,hb1,hb2,hb3]
       case measure => simp [intOf]; omega
      ·go_wp2
       go_ret
       refine ⟨?_,HF.out.al _⟩
       rw [HCB.out,HO2.out]
       simp at hb3
       have : ¬ 0 ≤ cver := by omega
       simp [okFrom,this]
     ·go_wp2
      go_ret
      refine ⟨?_,HF.out.al _⟩
      rw [HCB.out,HO2.out]
      simp at hb2
      have : ¬ ci < n := by omega
      simp [okFrom,this]
    ·go_wp2
     go_ret
     refine ⟨?_,HF.out.al _⟩
     rw [HCB.out,HO2.out]
     simp at hb1
     have : ¬ last < ci := by omega
     simp [okFrom,this]
   ·have : j = l.length := by omega
    subst this
    go_wp2
    go_ret
    refine ⟨?_,HF.out⟩
    rw [HCB.out,HO.out,List.drop_length]
    rfl
 ·have hcb : claimedB n l = false := by
   simp only [claimedB]
   by_cases h : 1 ≤ l.length
   ·have : ¬ l.length ≤ 64 := fun h' => hb ⟨h,h'⟩
    simp [this]
   ·simp [h]
  rw [hcb]
  clear hcb
  by_cases h : l.length = 0
  ·rw [h]
   go_enter Try.func69,Try.ntmps69
   go_wp2
   go_ret
   exact ⟨rfl,Fr.refl hok⟩
  ·have hi1 : (1 : Int) ≤ (l.length : Int) := by omega
   have hi2 : (64 : Int) < (l.length : Int) := by omega
   go_enter Try.func69,Try.ntmps69
   go_wp2
   go_ret
   exact ⟨rfl,Fr.refl hok⟩
theorem Rd.int {w : World} {v : Value} {n : Nat} {l : List Int} (h : Rd 1 w v n (ints l)) {j : Nat} {x : Int} (hx : l[j]? = some x) :
  ∃ b off cap,v = .slice (some ⟨b,off,none⟩) n cap ∧ n ≤ cap ∧ cap ≤ maxLen ∧ w.cell? ⟨b,off + j,none⟩ = some (.int .i64 x) := by
 have hj := (List.getElem?_eq_some_iff.1 hx).1
 rcases h.form with ⟨rfl,rfl⟩ | ⟨b,off,cap,rfl,h2,h3,h4⟩
 ·have := h.len
  rw [ints_len] at this
  omega
 ·exact ⟨b,off,cap,rfl,h2,h3,h4 j _ (by simp [ints,hx])⟩
def badI (most : Int) (n : Int) : Bool := decide (n < 0) || decide (most ≤ n)
theorem bad_ok (n : Int) (cb : Nat) (most : Int) (w : World) (hc : w.cell? ⟨cb,0,none⟩ = some (.int .i64 most)) :
  Calls Try.prog 108 #[.int .i64 n,.pointer (some ⟨cb,0,none⟩)] w fun e w' => e = .returned (.bool (badI most n)) ∧ w' = w := by
 unfold badI
 cases h : decide (n < 0)
 ·go_enter Try.func108,Try.ntmps108
  go_wp2
  go_ret
  exact ⟨rfl,rfl⟩
 ·go_enter Try.func108,Try.ntmps108
  go_wp2
  go_ret
  exact ⟨rfl,rfl⟩
def idxI (most : Int) (l : List Int) : Int := match l.findIdx? (badI most) with | some i => (i : Int) | none => -1
theorem idxI_at {p : Int} {l : List Int} {j : Nat} {x : Int} (hx : l[j]? = some x) (hp : badI p x = true) (hno : ∀ i < j,∀ x,l[i]? = some x → badI p x = false) : idxI p l = j := by
 obtain ⟨hj,hjx⟩ := (List.getElem?_eq_some_iff.1 hx)
 have : l.findIdx? (badI p) = some j := by
  rw [List.findIdx?_eq_some_iff_getElem]
  refine ⟨hj,by rw [hjx]; exact hp,fun i hi => ?_⟩
  have hil : i < l.length := Nat.lt_trans hi hj
  rw [hno i hi _ (List.getElem?_eq_getElem hil)]
  decide
 simp [idxI,this]
theorem idxI_none {p : Int} {l : List Int} (hno : ∀ i < l.length,∀ x,l[i]? = some x → badI p x = false) : idxI p l = -1 := by
 have : l.findIdx? (badI p) = none := by
  rw [List.findIdx?_eq_none_iff]
  intro x hx
  obtain ⟨i,hi⟩ := List.getElem?_of_mem hx
  exact hno i (List.getElem?_eq_some_iff.1 hi).1 x hi
 simp [idxI,this]
theorem idxI_ge (p : Int) (l : List Int) : decide (0 ≤ idxI p l) = l.any (badI p) := by
 unfold idxI
 cases h : l.findIdx? (badI p) with
 | none =>
  rw [List.findIdx?_eq_none_iff] at h
  have : l.any (badI p) = false := by rw [List.any_eq_false]; intro x hx; simp [h x hx]
  rw [this]; decide
 | some i =>
  rw [List.findIdx?_eq_some_iff_getElem] at h
  obtain ⟨hi,h1,_⟩ := h
  have : l.any (badI p) = true := by rw [List.any_eq_true]; exact ⟨_,List.getElem_mem hi,h1⟩
  rw [this]; simp
theorem indexI_ok {v : Value} (l : List Int) (cb : Nat) (most : Int) (w : World) (hr : Rd 1 w v l.length (ints l)) (hc : w.cell? ⟨cb,0,none⟩ = some (.int .i64 most)) :
  Calls Try.prog 127 #[v,.func (.func 108) #[] #[.pointer (some ⟨cb,0,none⟩)]] w fun e w' => e = .returned (.int .i64 (idxI most l)) ∧ w' = w := by
 obtain ⟨A,cap,rfl,hn1,hn2⟩ := hr.slice
 unfold maxLen at hn2
 have HR := Lib.hid hr
 clear hr
 go_enter Try.func127,Try.ntmps127
 go_wp2_with fail
 go_loopw [8] (fun i wr => ∃ j : Nat,j ≤ l.length ∧ i = .int .i64 j ∧ Hid (∀ i < j,∀ x,l[i]? = some x → badI most x = false) ∧ wr = w) (fun i _ => l.length - (intOf i).toNat)
 case atStart => exact ⟨0,Nat.zero_le _,rfl,Lib.hid (fun i h => by omega),rfl⟩
 case round =>
  obtain ⟨j,hj,rfl,hno,hF⟩ := hrel
  subst hF
  by_cases hjl : j < l.length
  ·obtain ⟨x,hx⟩ : ∃ x,l[j]? = some x := ⟨_,List.getElem?_eq_getElem hjl⟩
   obtain ⟨b,off,cap2,hv,_,_,e0⟩ := Rd.int HR.out hx
   injection hv with hv _ hv2
   subst hv hv2
   have HX := Lib.hid hx
   have i5 : (0 : Int) ≤ (j : Int) := by omega
   have i6 : (j : Int) < (l.length : Int) := by omega
   clear hx
   cases hp : badI most x
   ·have HP := Lib.hid hp
    clear hp
    go_wp2_with (go_at_call 108; refine (bad_ok x cb most _ hc).mono ?_; rw [HP.out]; rintro e w' ⟨rfl,hw⟩; replace hw := hw.symm; subst hw)
    go_roundw
    case rel =>
     refine ⟨j + 1,by omega,by go_num,Lib.hid ?_,trivial⟩
     intro i hi y hy
     rcases Nat.lt_succ_iff_lt_or_eq.1 hi with h | h
     ·exact hno.out i h y hy
     ·subst h
      have := HX.out.symm.trans hy
      injection this with this
      subst this
      exact HP.out
    case measure => simp [intOf]; omega
   ·have HP := Lib.hid hp
    clear hp
    go_wp2_with (go_at_call 108; refine (bad_ok x cb most _ hc).mono ?_; rw [HP.out]; rintro e w' ⟨rfl,hw⟩; replace hw := hw.symm; subst hw)
    go_ret
    refine ⟨?_,rfl⟩
    rw [idxI_at HX.out HP.out hno.out]; rfl
  ·have : j = l.length := by omega
   subst this
   go_wp2
   go_ret
   refine ⟨?_,rfl⟩
   rw [idxI_none hno.out]; rfl
theorem containsI_ok {v : Value} (l : List Int) (cb : Nat) (most : Int) (w : World) (hr : Rd 1 w v l.length (ints l)) (hc : w.cell? ⟨cb,0,none⟩ = some (.int .i64 most)) :
  Calls Try.prog 107 #[v,.func (.func 108) #[] #[.pointer (some ⟨cb,0,none⟩)]] w fun e w' => e = .returned (.bool (l.any (badI most))) ∧ w' = w := by
 go_enter Try.func107,Try.ntmps107
 go_wp2_with (go_at_call 127; refine (indexI_ok l cb most _ hr hc).mono ?_; rintro e w' ⟨rfl,hw⟩; replace hw := hw.symm; subst hw)
 go_ret
 exact ⟨by rw [← idxI_ge]; rfl,rfl⟩
def rightB (l : List Int) (most : Int) : Bool := decide (l.length ≤ 64) && !l.any (badI most)
theorem right_ok {tag : Nat → Tag} {v : Value} (l : List Int) (most : Int) (w : World) (hr : Rd 1 w v l.length (ints l)) (hok : TagOk tag w) :
  Calls Try.prog 66 #[v,.int .i64 most] w fun e w' => e = .returned (.bool (rightB l most)) ∧ Fr (fun _ => False) tag tag w w' := by
 obtain ⟨A,cap,rfl,hn1,hn2⟩ := hr.slice
 unfold maxLen at hn2
 have HR := Lib.hid hr
 clear hr
 by_cases hl : l.length ≤ 64
 ·have hl' : (l.length : Int) ≤ 64 := by omega
  have hb : rightB l most = !l.any (badI most) := by simp [rightB,hl]
  rw [hb]
  clear hb
  go_enter Try.func66,Try.ntmps66
  go_wp2_with (go_at_call 107; refine (containsI_ok l w.heap.size most _ (HR.out.alloc _) (by go_simp)).mono ?_; rintro e w' ⟨rfl,hw⟩; replace hw := hw.symm; subst hw)
  go_ret
  exact ⟨rfl,Fr.alloc hok _⟩
 ·have hl' : (64 : Int) < (l.length : Int) := by omega
  have hb : rightB l most = false := by simp [rightB,hl]
  rw [hb]
  clear hb
  go_enter Try.func66,Try.ntmps66
  go_wp2
  go_ret
  exact ⟨rfl,Fr.alloc hok _⟩
theorem rightPlaces_ok {v : Value} (l : List Int) (most : Int) (w : World) (hr : Rd 1 w v l.length (ints l)) :
  Calls Try.prog 68 #[v,.int .i64 most] w fun e w' => e = .returned (.bool (rightB l most)) ∧ w' = w := by
 obtain ⟨A,cap,rfl,hn1,hn2⟩ := hr.slice
 unfold maxLen at hn2
 have HR := Lib.hid hr
 clear hr
 by_cases hl : l.length ≤ 64
 ·have hl' : (l.length : Int) ≤ 64 := by omega
  have hb : rightB l most = !l.any (badI most) := by simp [rightB,hl]
  have HB := Lib.hid hb
  clear hb
  go_enter Try.func68,Try.ntmps68
  go_wp2_with fail
  go_loopw [5] (fun i wr => ∃ j : Nat,j ≤ l.length ∧ i = .int .i64 j ∧ Hid (∀ i < j,∀ x,l[i]? = some x → badI most x = false) ∧ wr = w) (fun i _ => l.length - (intOf i).toNat)
  case atStart => exact ⟨0,Nat.zero_le _,rfl,Lib.hid (fun i h => by omega),rfl⟩
  case round =>
   obtain ⟨j,hj,rfl,hno,hF⟩ := hrel
   subst hF
   by_cases hjl : j < l.length
   ·obtain ⟨x,hx⟩ : ∃ x,l[j]? = some x := ⟨_,List.getElem?_eq_getElem hjl⟩
    obtain ⟨b,off,cap2,hv,_,_,e0⟩ := Rd.int HR.out hx
    injection hv with hv _ hv2
    subst hv hv2
    have HX := Lib.hid hx
    have i5 : (0 : Int) ≤ (j : Int) := by omega
    have i6 : (j : Int) < (l.length : Int) := by omega
    clear hx
    have hbad : badI most x = true → l.any (badI most) = true := fun h => by rw [List.any_eq_true]; exact ⟨x,List.mem_of_getElem? HX.out,h⟩
    have HBAD := Lib.hid hbad
    clear hbad
    cases hp : decide (x < 0)
    ·cases hp2 : decide (most ≤ x)
     ·go_wp2
      go_roundw
      case rel =>
       refine ⟨j + 1,by omega,by go_num,Lib.hid ?_,trivial⟩
       intro i hi y hy
       rcases Nat.lt_succ_iff_lt_or_eq.1 hi with h | h
       ·exact hno.out i h y hy
       ·subst h
        have := HX.out.symm.trans hy
        injection this with this
        subst this
        simp [badI,hp,hp2]
      case measure => simp [intOf]; omega
     ·go_wp2
      go_ret
      refine ⟨?_,rfl⟩
      rw [HB.out,HBAD.out (by simp [badI,hp,hp2])]; rfl
    ·go_wp2
     go_ret
     refine ⟨?_,rfl⟩
     rw [HB.out,HBAD.out (by simp [badI,hp])]; rfl
   ·have : j = l.length := by omega
    subst this
    go_wp2
    go_ret
    refine ⟨?_,rfl⟩
    have hall : l.any (badI most) = false := by
     rw [List.any_eq_false]
     intro x hx
     obtain ⟨i,hi⟩ := List.getElem?_of_mem hx
     simp [hno.out i (List.getElem?_eq_some_iff.1 hi).1 x hi]
    rw [HB.out,hall]; rfl
 ·have hl' : (64 : Int) < (l.length : Int) := by omega
  have hb : rightB l most = false := by simp [rightB,hl]
  rw [hb]
  clear hb
  go_enter Try.func68,Try.ntmps68
  go_wp2
  go_ret
  exact ⟨rfl,rfl⟩
theorem samePosts_ok {tag : Nat → Tag} {va vb : Value} {w : World} (l : List Post) (ha : Rd 6 w va l.length (posts l)) (hb : Rd 6 w vb l.length (posts l)) (hok : TagOk tag w) (hl : l.length ≤ 1000000) :
  Calls Try.prog 22 #[va,vb] w fun e w' => e = .returned (.bool true) ∧ Fr (fun _ => False) tag tag w w' := by
 obtain ⟨A,acap,rfl,h1,h2⟩ := ha.slice
 obtain ⟨B,bcap,rfl,h3,h4⟩ := hb.slice
 unfold maxLen at h2 h4
 have HA := Lib.hid ha
 have HB := Lib.hid hb
 clear ha hb
 go_enter Try.func22,Try.ntmps22
 go_wp2_with fail
 go_loopw [5] (fun i wr => ∃ n : Nat,n ≤ l.length ∧ i = .int .i64 n ∧ Hid (Fr (fun _ => False) tag tag w wr)) (fun i _ => l.length - (intOf i).toNat)
 case atStart => exact ⟨0,Nat.zero_le _,rfl,Lib.hid (Fr.refl hok)⟩
 case round =>
  obtain ⟨n,hn,rfl,HFr⟩ := hrel
  by_cases hlt : n < l.length
  ·obtain ⟨⟨k,s,d,p,i,v⟩,hx⟩ : ∃ c,l[n]? = some c := ⟨_,List.getElem?_eq_getElem hlt⟩
   obtain ⟨ab,aoff,acap',he,_,_,hac⟩ := Rd.elem (enc := Post.cells) HA.out (fun _ => rfl) (by decide) hx
   injection he with he _ he2
   subst he he2
   obtain ⟨bb,boff,bcap',he,_,_,hbc⟩ := Rd.elem (enc := Post.cells) HB.out (fun _ => rfl) (by decide) hx
   injection he with he _ he2
   subst he he2
   have a0 : wr.cell? ⟨ab,aoff + n * 6,none⟩ = some (.int .i64 k) := HFr.out.cellF (hac 0 _ rfl)
   have a1 : wr.cell? ⟨ab,aoff + n * 6 + 1,none⟩ = some (.int .i64 s) := HFr.out.cellF (hac 1 _ rfl)
   have a2 : wr.cell? ⟨ab,aoff + n * 6 + 2,none⟩ = some (.int .i64 d) := HFr.out.cellF (hac 2 _ rfl)
   have a3 : wr.cell? ⟨ab,aoff + n * 6 + 3,none⟩ = some (.int .i64 p) := HFr.out.cellF (hac 3 _ rfl)
   have a4 : wr.cell? ⟨ab,aoff + n * 6 + 4,none⟩ = some (.int .i64 i) := HFr.out.cellF (hac 4 _ rfl)
   have a5 : wr.cell? ⟨ab,aoff + n * 6 + 5,none⟩ = some (.int .i64 v) := HFr.out.cellF (hac 5 _ rfl)
   have b0 : wr.cell? ⟨bb,boff + n * 6,none⟩ = some (.int .i64 k) := HFr.out.cellF (hbc 0 _ rfl)
   have b1 : wr.cell? ⟨bb,boff + n * 6 + 1,none⟩ = some (.int .i64 s) := HFr.out.cellF (hbc 1 _ rfl)
   have b2 : wr.cell? ⟨bb,boff + n * 6 + 2,none⟩ = some (.int .i64 d) := HFr.out.cellF (hbc 2 _ rfl)
   have b3 : wr.cell? ⟨bb,boff + n * 6 + 3,none⟩ = some (.int .i64 p) := HFr.out.cellF (hbc 3 _ rfl)
   have b4 : wr.cell? ⟨bb,boff + n * 6 + 4,none⟩ = some (.int .i64 i) := HFr.out.cellF (hbc 4 _ rfl)
   have b5 : wr.cell? ⟨bb,boff + n * 6 + 5,none⟩ = some (.int .i64 v) := HFr.out.cellF (hbc 5 _ rfl)
   have i1 : (0 : Int) ≤ (n : Int) := by omega
   have i2 : (n : Int) < (l.length : Int) := by omega
   have hokr := HFr.out.dom
   clear hac hbc hx
   go_wp2_with fail
   go_quiet (fail)
   go_wp2_with fail
   go_roundw
   case rel => exact ⟨n + 1,by omega,by go_num,Lib.hid (HFr.out.trans ((Fr.refl hokr).dN _))⟩
   case measure => simp [intOf]; omega
  ·have i2 : (l.length : Int) ≤ (n : Int) := by omega
   go_wp2_with fail
   go_ret
   exact ⟨rfl,HFr.out⟩
theorem sameCame_ok {tag : Nat → Tag} {va vb : Value} {w : World} (l : List Came) (ha : Rd 3 w va l.length (cames l)) (hb : Rd 3 w vb l.length (cames l)) (hok : TagOk tag w) (hl : l.length ≤ 1000000) :
  Calls Try.prog 27 #[va,vb] w fun e w' => e = .returned (.bool true) ∧ Fr (fun _ => False) tag tag w w' := by
 obtain ⟨A,acap,rfl,h1,h2⟩ := ha.slice
 obtain ⟨B,bcap,rfl,h3,h4⟩ := hb.slice
 unfold maxLen at h2 h4
 have HA := Lib.hid ha
 have HB := Lib.hid hb
 clear ha hb
 go_enter Try.func27,Try.ntmps27
 go_wp2_with fail
 go_loopw [5] (fun i wr => ∃ n : Nat,n ≤ l.length ∧ i = .int .i64 n ∧ Hid (Fr (fun _ => False) tag tag w wr)) (fun i _ => l.length - (intOf i).toNat)
 case atStart => exact ⟨0,Nat.zero_le _,rfl,Lib.hid (Fr.refl hok)⟩
 case round =>
  obtain ⟨n,hn,rfl,HFr⟩ := hrel
  by_cases hlt : n < l.length
  ·obtain ⟨⟨k,p,i⟩,hx⟩ : ∃ c,l[n]? = some c := ⟨_,List.getElem?_eq_getElem hlt⟩
   obtain ⟨ab,aoff,acap',he,_,_,hac⟩ := Rd.elem (enc := Came.cells) HA.out (fun _ => rfl) (by decide) hx
   injection he with he _ he2
   subst he he2
   obtain ⟨bb,boff,bcap',he,_,_,hbc⟩ := Rd.elem (enc := Came.cells) HB.out (fun _ => rfl) (by decide) hx
   injection he with he _ he2
   subst he he2
   have a0 : wr.cell? ⟨ab,aoff + n * 3,none⟩ = some (.int .i64 k) := HFr.out.cellF (hac 0 _ rfl)
   have a1 : wr.cell? ⟨ab,aoff + n * 3 + 1,none⟩ = some (.int .i64 p) := HFr.out.cellF (hac 1 _ rfl)
   have a2 : wr.cell? ⟨ab,aoff + n * 3 + 2,none⟩ = some (.int .i64 i) := HFr.out.cellF (hac 2 _ rfl)
   have b0 : wr.cell? ⟨bb,boff + n * 3,none⟩ = some (.int .i64 k) := HFr.out.cellF (hbc 0 _ rfl)
   have b1 : wr.cell? ⟨bb,boff + n * 3 + 1,none⟩ = some (.int .i64 p) := HFr.out.cellF (hbc 1 _ rfl)
   have b2 : wr.cell? ⟨bb,boff + n * 3 + 2,none⟩ = some (.int .i64 i) := HFr.out.cellF (hbc 2 _ rfl)
   have i1 : (0 : Int) ≤ (n : Int) := by omega
   have i2 : (n : Int) < (l.length : Int) := by omega
   have hokr := HFr.out.dom
   clear hac hbc hx
   go_wp2_with fail
   go_quiet (fail)
   go_wp2_with fail
   go_roundw
   case rel => exact ⟨n + 1,by omega,by go_num,Lib.hid (HFr.out.trans ((Fr.refl hokr).dN _))⟩
   case measure => simp [intOf]; omega
  ·have i2 : (l.length : Int) ≤ (n : Int) := by omega
   go_wp2_with fail
   go_ret
   exact ⟨rfl,HFr.out⟩
theorem equalInts_ok {tag : Nat → Tag} {va vb : Value} {w : World} (l : List Int) (ha : Rd 1 w va l.length (ints l)) (hb : Rd 1 w vb l.length (ints l)) (hok : TagOk tag w) (hl : l.length ≤ 1000000) :
  Calls Try.prog 58 #[va,vb] w fun e w' => e = .returned (.bool true) ∧ Fr (fun _ => False) tag tag w w' := by
 obtain ⟨A,acap,rfl,h1,h2⟩ := ha.slice
 obtain ⟨B,bcap,rfl,h3,h4⟩ := hb.slice
 unfold maxLen at h2 h4
 have HA := Lib.hid ha
 have HB := Lib.hid hb
 clear ha hb
 go_enter Try.func58,Try.ntmps58
 go_wp2_with fail
 go_loopw [13] (fun i wr => ∃ n : Nat,n ≤ l.length ∧ i = .int .i64 n ∧ Hid (Fr (fun _ => False) tag tag w wr)) (fun i _ => l.length - (intOf i).toNat)
 case atStart => exact ⟨0,Nat.zero_le _,rfl,Lib.hid (Fr.refl hok)⟩
 case round =>
  obtain ⟨n,hn,rfl,HFr⟩ := hrel
  by_cases hlt : n < l.length
  ·obtain ⟨x,hx⟩ : ∃ c,l[n]? = some c := ⟨_,List.getElem?_eq_getElem hlt⟩
   obtain ⟨ab,aoff,acap',he,_,_,hac⟩ := Rd.int HA.out hx
   injection he with he _ he2
   subst he he2
   obtain ⟨bb,boff,bcap',he,_,_,hbc⟩ := Rd.int HB.out hx
   injection he with he _ he2
   subst he he2
   have a0 := HFr.out.cellF hac
   have b0 := HFr.out.cellF hbc
   have i1 : (0 : Int) ≤ (n : Int) := by omega
   have i2 : (n : Int) < (l.length : Int) := by omega
   have hokr := HFr.out.dom
   clear hac hbc hx
   go_wp2_with fail
   go_quiet (fail)
   go_wp2_with fail
   go_roundw
   case rel => exact ⟨n + 1,by omega,by go_num,Lib.hid (HFr.out.trans ((Fr.refl hokr).dN _))⟩
   case measure => simp [intOf]; omega
  ·have i2 : (l.length : Int) ≤ (n : Int) := by omega
   go_wp2_with fail
   go_ret
   exact ⟨rfl,HFr.out⟩
def idxN (p : Int) (l : List Int) : Int := match l.findIdx? (· == p) with | some i => (i : Int) | none => -1
end Go.Proofs.Ytclkokkppgchfaa
