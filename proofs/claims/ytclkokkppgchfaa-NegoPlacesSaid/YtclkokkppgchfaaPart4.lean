/- A part of the proof: texts of this session, joined. -/
import Derived.Test.YtclkokkppgchfaaPart3
import Derived.Test.YtclkokkppgchfaaShort
set_option linter.unusedSimpArgs false
set_option linter.unusedVariables false
set_option maxHeartbeats 3200000
set_option maxRecDepth 100000
namespace Go.Proofs.Ytclkokkppgchfaa
open Go.RowKit Go.Ng Go.Proofs.YtclkokkppgchfaaW.PrintLast
theorem Fr.drewN {S : Tag → Prop} {tag : Nat → Tag} {w : World} (h : TagOk tag w) (n : Nat) : Fr S tag tag w (w.drewN n) := ⟨rfl,rfl,rfl,Nat.le_refl _,fun _ _ => rfl,fun _ _ _ => rfl,h⟩
theorem happen_ok {tag : Nat → Tag} {k : Nat} {P : PlaceM} {w : World} (kind prop item : Int) (hP : PRep tag k w P) (hok : TagOk tag w) (hn : P.came.length ≤ 1000000) :
  Calls Try.prog 131 #[.pointer (some ⟨P.ptr,0,none⟩),.int .i64 kind,.int .i64 prop,.int .i64 item] w fun e w' => e = .returned (.tuple #[]) ∧
   ∃ tag',PRep tag' k w' (P.happen kind prop item) ∧ Fr (fun t => t = (k,1,0) ∨ t = (k,6,0)) tag tag' w w' := by
 obtain ⟨i0,hi,hz0,hz1,hz2⟩ := info_parts Try.info106
 obtain ⟨sv,iv,ov,cv,hc,h2,h3,h4,h5⟩ := hP.cells
 have c5 : w.cell? ⟨P.ptr,5,none⟩ = some cv := cell_of hc 5
 have HP := Lib.hid hP
 have HC := Lib.hid hc
 have H5 := Lib.hid h5
 clear hP hc
 go_enter Try.func131,Try.ntmps131
 go_wp2_with ((refine append_list rfl (.tmp 12) (.tmp 17) 37 rfl (by rfl) (by rfl) (H5.out.alloc _) (hok.alloc _) Try.underlying37 hi hz0 hz1 hz2 rfl (by decide) (Came.cells ⟨kind,prop,item⟩) rfl (news_at (heap_alloc_at _ _)) (by simp [Came.cells,Value.oneCell']) (by decide) (by unfold maxLen; omega) (by omega) ?_; intro g cap w1 tag1 hrow hfr; have hc1 := Lib.hid (hfr.heap (heap_alloc_lt HC.out _) (by rw [HP.out.tptr]; simp)); have d5 := cell_of hc1.out 5; have f5 := free_of hc1.out 5))
 have hF : Fr (fun t => t = (k,1,0) ∨ t = (k,6,0)) tag tag1 w w1 := (Fr.alloc hok _).trans (hfr.mono fun t h => .inr h)
 have ht1 : tag1 P.ptr = (k,1,0) := (hF.tag_eq HC.out).trans HP.out.tptr
 have hG := hF.trans (Fr.setCell hF.dom (a := ⟨P.ptr,5,none⟩) (.inl ht1) (.slice (some ⟨g,0,none⟩) (P.came.length + 1) cap))
 go_end0
 refine ⟨rfl,tag1,?_,hG⟩
 refine HP.out.told hG (by rintro t (h | h) <;> simp [h]) P.out _ ?_
 intro sv' iv' ov' cv' hx
 obtain ⟨rfl,rfl,rfl,rfl⟩ : sv' = sv ∧ iv' = iv ∧ ov' = ov ∧ cv' = cv := by
  have := hx.symm.trans HC.out
  simpa using this
 refine ⟨ov',.slice (some ⟨g,0,none⟩) (P.came.length + 1) cap,?_,?_,?_⟩
 ·rw [Go.Ng.heap_setCell_same hc1.out]; rfl
 ·exact h4.fr hG (by simp)
 ·rw [cames_snoc,List.length_append]
  exact hrow.fr (Fr.setCell (S:=(· = (k,1,0))) hF.dom (a := ⟨P.ptr,5,none⟩) ht1 _) (by simp)
theorem told_ok {tag : Nat → Tag} {k : Nat} {P : PlaceM} {w : World} (hP : PRep tag k w P) (hok : TagOk tag w) :
  Calls Try.prog 72 #[.pointer (some ⟨P.ptr,0,none⟩)] w fun e w' => ∃ ov cv,e = .returned (.tuple #[ov,cv]) ∧ Row tag (k,5,0) 49 6 w' ov P.out.length (posts P.out) ∧ Row tag (k,6,0) 106 3 w' cv P.came.length (cames P.came) ∧
   PRep tag k w' { P with out := [],came := [] } ∧ Fr (fun t => t = (k,1,0)) tag tag w w' := by
 obtain ⟨sv,iv,ov,cv,hc,h2,h3,h4,h5⟩ := hP.cells
 have c4 : w.cell? ⟨P.ptr,4,none⟩ = some ov := cell_of hc 4
 have c5 : w.cell? ⟨P.ptr,5,none⟩ = some cv := cell_of hc 5
 have f4 := free_of hc 4
 have f5 := free_of hc 5
 have HP := Lib.hid hP
 have HC := Lib.hid hc
 clear hP hc
 go_enter Try.func72,Try.ntmps72
 go_wp2_with fail
 go_quiet (fail)
 go_wp2
 go_ret2
 have ht1 : tag P.ptr = (k,1,0) := HP.out.tptr
 have hF : Fr (fun t => t = (k,1,0)) tag tag w (((w.setCell ⟨P.ptr,4,none⟩ (.slice none 0 0)).setCell ⟨P.ptr,5,none⟩ (.slice none 0 0)).drewN nq) :=
  ((Fr.setCell hok (a := ⟨P.ptr,4,none⟩) ht1 _).trans (Fr.setCell (hok.setCell _ _) (a := ⟨P.ptr,5,none⟩) ht1 _)).trans (Fr.drewN ((hok.setCell _ _).setCell _ _) nq)
 refine ⟨ov,cv,rfl,h4.fr hF (by simp),h5.fr hF (by simp),?_,hF⟩
 refine HP.out.told hF (by rintro t h; exact .inl h) [] [] ?_
 intro sv' iv' ov' cv' hx
 obtain ⟨rfl,rfl,rfl,rfl⟩ : sv' = sv ∧ iv' = iv ∧ ov' = ov ∧ cv' = cv := by
  have := hx.symm.trans HC.out
  simpa using this
 exact ⟨_,_,Go.Ng.heap_setCell_same (Go.Ng.heap_setCell_same HC.out 4 (.slice none 0 0)) 5 (.slice none 0 0),Row.nil _ _ _ _ _,Row.nil _ _ _ _ _⟩
theorem PRep.drew {tag : Nat → Tag} {k : Nat} {P : PlaceM} {w : World} (h : PRep tag k w P) (hok : TagOk tag w) : PRep tag k w.drew P := h.fr (S:=fun _ => False) (Fr.drew hok) (fun _ _ x => x)
theorem claims_len (l : List Clm) : (claims l).length = l.length * 2 := flat_len _ 2 (fun _ => rfl) l
theorem ints_len (l : List Int) : (ints l).length = l.length := by simp [ints]
theorem PRep.site_cell {tag : Nat → Tag} {k : Nat} {P : PlaceM} {w : World} {sv : Value} (h2 : Row tag (k,2,0) 3 1 w sv P.sites.length (ints P.sites)) {m : Nat} (hm : m < P.sites.length) :
  ∃ b cap,sv = .slice (some ⟨b,0,none⟩) P.sites.length cap ∧ P.sites.length ≤ cap ∧ cap ≤ maxLen ∧ w.cell? ⟨b,m,none⟩ = some (.int .i64 (P.site m)) := by
 obtain ⟨A,cap,rfl,h3,h4⟩ := h2.form
 obtain ⟨b,rfl,_,_,hc⟩ := h2.cell rfl (j:=m) (by rw [ints_len]; exact hm)
 refine ⟨b,cap,rfl,h3,h4,?_⟩
 rw [hc]
 simp [ints,PlaceM.site,List.getElem?_eq_getElem hm,List.getD_eq_getElem?_getD]
theorem ask_ok {tag : Nat → Tag} {k : Nat} {P : PlaceM} {w : World} {n : Int} {x : PropM} {m : Nat} {cver : Int} (hP : PRep tag k w P) (hok : TagOk tag w) (hx : (n,x) ∈ P.props) (hg : x.claims[x.granted]? = some ⟨m,cver⟩) (hm : m < P.sites.length) (hn : P.out.length ≤ 1000000) :
  Calls Try.prog 71 #[.pointer (some ⟨P.ptr,0,none⟩),.int .i64 n,.pointer (some ⟨x.ptr,0,none⟩)] w fun e w' => e = .returned (.tuple #[]) ∧
   ∃ tag',PRep tag' k w' (P.send 1 (P.site m) n m cver) ∧ Fr (fun t => t = (k,1,0) ∨ t = (k,5,0)) tag tag' w w' := by
 obtain ⟨sv,iv,ov,cv,hc,h2,h3,h4,h5⟩ := hP.cells
 obtain ⟨xv,hxc,hxr⟩ := (hP.props n x hx).cells
 obtain ⟨A,cap,rfl,hl1,hl2⟩ := hxr.form
 unfold maxLen at hl2
 have hgl := (List.getElem?_eq_some_iff.1 hg).1
 obtain ⟨b,rfl,_,hb,hce⟩ := Row.elem (enc := Clm.cells) hxr (fun _ => rfl) (by decide) hg
 have e0 : w.cell? ⟨b,x.granted * 2,none⟩ = some (.int .i64 m) := hce 0 _ rfl
 have e1 : w.cell? ⟨b,x.granted * 2 + 1,none⟩ = some (.int .i64 cver) := hce 1 _ rfl
 have x0 : w.cell? ⟨x.ptr,0,none⟩ = some (.slice (some ⟨b,0,none⟩) x.claims.length cap) := cell_of hxc 0
 have x2 : w.cell? ⟨x.ptr,2,none⟩ = some (.int .i64 x.granted) := cell_of hxc 2
 obtain ⟨sb,scap,rfl,hs1,hs2,hs⟩ := PRep.site_cell h2 hm
 unfold maxLen at hs2
 have c1 : w.cell? ⟨P.ptr,1,none⟩ = some (.slice (some ⟨sb,0,none⟩) P.sites.length scap) := cell_of hc 1
 have HP := Lib.hid hP
 have HX := Lib.hid hx
 clear hP hc hxc hce hg hx h2 h3 h4 h5
 have i1 : (0 : Int) ≤ (x.granted : Int) := by omega
 have i2 : (x.granted : Int) < (x.claims.length : Int) := by omega
 have i3 : (0 : Int) ≤ (m : Int) := by omega
 have i4 : (m : Int) < (P.sites.length : Int) := by omega
 go_enter Try.func71,Try.ntmps71
 go_wp2_with fail
 refine start_ (n:=12) (S:=fun w' => w'.cell? ⟨x.ptr,0,none⟩ = some (.slice (some ⟨b,0,none⟩) x.claims.length cap) ∧ w'.cell? ⟨x.ptr,2,none⟩ = some (.int .i64 x.granted) ∧ w'.cell? ⟨b,x.granted * 2,none⟩ = some (.int .i64 m) ∧ w'.cell? ⟨b,x.granted * 2 + 1,none⟩ = some (.int .i64 cver)) (ds := [11]) #[f_,f_,f_,f_,f_,f_,f_,f_,f_,f_,f_,f_] (by kernel_rfl) rfl rfl ⟨x0,x2,e0,e1⟩ (fun hHeld => ?_)
 refine pv_ (i:=0) (N:=some 7) (v:=?_) (a':=?_) rfl rfl (by kernel_rfl) (fun _ _ _ h => h) (Or.inl ⟨by rfl,?_⟩) ?_ ?_
 rotate_left;intro w';go_simp;with_reducible rfl;rotate_left;simp only [Act.put,sA_,sB_,sC_,i64_w,i32_w];rfl
 refine pv_ (i:=1) (N:=some 8) (v:=?_) (a':=?_) rfl rfl (by kernel_rfl) (fun _ _ _ h => h) (Or.inl ⟨by rfl,?_⟩) ?_ ?_
 rotate_left;intro w';go_simp;with_reducible rfl;rotate_left;simp only [Act.put,sA_,sB_,sC_,i64_w,i32_w];rfl
 refine pv_ (i:=2) (N:=some 9) (v:=?_) (a':=?_) rfl rfl (by kernel_rfl) (fun _ _ _ h => h) (Or.inl ⟨by rfl,?_⟩) ?_ ?_
 rotate_left;intro w';go_simp;with_reducible rfl;rotate_left;simp only [Act.put,sA_,sB_,sC_,i64_w,i32_w];rfl
 refine pv_ (i:=4) (N:=some 11) (v:=?_) (a':=?_) rfl rfl (by kernel_rfl) (fun _ _ _ h => h) (Or.inl ⟨by rfl,?_⟩) ?_ ?_
 rotate_left;intro w';go_simp;with_reducible rfl;rotate_left;simp only [Act.put,sA_,sB_,sC_,i64_w,i32_w];rfl
 refine pv_ (i:=5) (N:=some 12) (v:=?_) (a':=?_) rfl rfl (by kernel_rfl) (fun _ _ _ h => h) (Or.inl ⟨by rfl,?_⟩) ?_ ?_
 rotate_left;intro w';go_simp;with_reducible rfl;rotate_left;simp only [Act.put,sA_,sB_,sC_,i64_w,i32_w];rfl
 refine pv_ (i:=6) (N:=some 13) (v:=?_) (a':=?_) rfl rfl (by kernel_rfl) (fun _ _ _ h => h) (Or.inl ⟨by rfl,?_⟩) ?_ ?_
 rotate_left;intro w';go_simp;with_reducible rfl;rotate_left;simp only [Act.put,sA_,sB_,sC_,i64_w,i32_w];rfl
 refine tv_ (i:=3) (N:=some 10) (v:=?_) (a':=?_) rfl rfl (by kernel_rfl) (fun _ _ _ h => h) (Or.inl ⟨by rfl,?_⟩) hHeld ?_ ?_
 rotate_left;rintro w' ⟨s0,s1,s2,s3⟩;go_simp;with_reducible rfl;rotate_left;simp only [Act.put,sA_,sB_,sC_,i64_w,i32_w];rfl
 refine tv_ (i:=7) (N:=some 14) (v:=?_) (a':=?_) rfl rfl (by kernel_rfl) (fun _ _ _ h => h) (Or.inl ⟨by rfl,?_⟩) hHeld ?_ ?_
 rotate_left;rintro w' ⟨s0,s1,s2,s3⟩;go_simp;with_reducible rfl;rotate_left;simp only [Act.put,sA_,sB_,sC_,i64_w,i32_w];rfl
 refine pv_ (i:=8) (N:=some 15) (v:=?_) (a':=?_) rfl rfl (by kernel_rfl) (fun _ _ _ h => h) (Or.inl ⟨by rfl,?_⟩) ?_ ?_
 rotate_left;intro w';go_simp;with_reducible rfl;rotate_left;simp only [Act.put,sA_,sB_,sC_,i64_w,i32_w];rfl
 refine tv_ (i:=9) (N:=some 16) (v:=?_) (a':=?_) rfl rfl (by kernel_rfl) (fun _ _ _ h => h) (Or.inl ⟨by rfl,?_⟩) hHeld ?_ ?_
 rotate_left;rintro w' ⟨s0,s1,s2,s3⟩;go_simp;with_reducible rfl;rotate_left;simp only [Act.put,sA_,sB_,sC_,i64_w,i32_w];rfl
 refine one_ (i:=10) (N:=some 6) #[t_,t_,t_,t_,t_,t_,t_,t_,t_,t_,t_,f_] rfl rfl (by kernel_rfl) (by decide) (fun K hK => ?_)
 refine value_ (w1:=?_) (v:=?_) (by rfl) rfl ?_ ?_
 rotate_left 2
 ·go_simp
  constructor
  ·rfl
  ·rfl
 refine hK.out _ _ ⟨(ca hHeld.1 _),(ca hHeld.2.1 _),(ca hHeld.2.2.1 _),(ca hHeld.2.2.2 _)⟩ (fun hHeld => ?_)
 clear hK K
 refine norm_ (a':=?_) ?_ ?_
 rotate_left
 ·show Act.put _ (some 6) _ = _
  simp only [Act.put,sA_,sB_,sC_,i64_w,i32_w]
  rfl
 refine last_ (i:=11) (N:=none) #[t_,t_,t_,t_,t_,t_,t_,t_,t_,t_,t_,t_] rfl rfl (by kernel_rfl) (by decide) (fun K hK => ?_)
 refine skip_ (w1:=?_) (by rfl) rfl ?_ ?_
 rotate_left
 ·go_simp
  rfl
 refine hK.out _ _ ?_
 clear hK K
 refine done_ (by kernel_rfl) ?_
 have hF0 : Fr (fun _ => False) tag tag w (w.alloc (.cells #[.int .i64 (m : Int),.int .i64 cver] 69)).drew := (Fr.alloc hok _).trans (Fr.drew (hok.alloc _))
 go_wp2_with fail
 clear hHeld
 have HF0 := Lib.hid hF0
 have hP1 := Lib.hid (HP.out.fr hF0 (fun _ _ x => x))
 clear hF0
 refine start_ (n:=15) (S:=fun w' => w'.cell? ⟨P.ptr,1,none⟩ = some (.slice (some ⟨sb,0,none⟩) P.sites.length scap) ∧ w'.cell? ⟨w.heap.size,0,none⟩ = some (.int .i64 m) ∧ w'.cell? ⟨w.heap.size,1,none⟩ = some (.int .i64 cver) ∧ w'.cell? ⟨sb,m,none⟩ = some (.int .i64 (P.site m))) (ds := [14]) #[f_,f_,f_,f_,f_,f_,f_,f_,f_,f_,f_,f_,f_,f_,f_] (by kernel_rfl) rfl rfl ⟨HF0.out.cellF c1,by go_simp,by go_simp,HF0.out.cellF hs⟩ (fun hHeld => ?_)
 refine pv_ (i:=0) (N:=some 17) (v:=?_) (a':=?_) rfl rfl (by kernel_rfl) (fun _ _ _ h => h) (Or.inl ⟨by rfl,?_⟩) ?_ ?_
 rotate_left;intro w';go_simp;with_reducible rfl;rotate_left;simp only [Act.put,sA_,sB_,sC_,i64_w,i32_w];rfl
 refine pv_ (i:=1) (N:=some 18) (v:=?_) (a':=?_) rfl rfl (by kernel_rfl) (fun _ _ _ h => h) (Or.inl ⟨by rfl,?_⟩) ?_ ?_
 rotate_left;intro w';go_simp;with_reducible rfl;rotate_left;simp only [Act.put,sA_,sB_,sC_,i64_w,i32_w];rfl
 refine pv_ (i:=2) (N:=some 19) (v:=?_) (a':=?_) rfl rfl (by kernel_rfl) (fun _ _ _ h => h) (Or.inl ⟨by rfl,?_⟩) ?_ ?_
 rotate_left;intro w';go_simp;with_reducible rfl;rotate_left;simp only [Act.put,sA_,sB_,sC_,i64_w,i32_w];rfl
 refine pv_ (i:=3) (N:=some 20) (v:=?_) (a':=?_) rfl rfl (by kernel_rfl) (fun _ _ _ h => h) (Or.inl ⟨by rfl,?_⟩) ?_ ?_
 rotate_left;intro w';go_simp;with_reducible rfl;rotate_left;simp only [Act.put,sA_,sB_,sC_,i64_w,i32_w];rfl
 refine pv_ (i:=5) (N:=some 22) (v:=?_) (a':=?_) rfl rfl (by kernel_rfl) (fun _ _ _ h => h) (Or.inl ⟨by rfl,?_⟩) ?_ ?_
 rotate_left;intro w';go_simp;with_reducible rfl;rotate_left;simp only [Act.put,sA_,sB_,sC_,i64_w,i32_w];rfl
 refine pv_ (i:=9) (N:=some 26) (v:=?_) (a':=?_) rfl rfl (by kernel_rfl) (fun _ _ _ h => h) (Or.inl ⟨by rfl,?_⟩) ?_ ?_
 rotate_left;intro w';go_simp;with_reducible rfl;rotate_left;simp only [Act.put,sA_,sB_,sC_,i64_w,i32_w];rfl
 refine pv_ (i:=10) (N:=some 27) (v:=?_) (a':=?_) rfl rfl (by kernel_rfl) (fun _ _ _ h => h) (Or.inl ⟨by rfl,?_⟩) ?_ ?_
 rotate_left;intro w';go_simp;with_reducible rfl;rotate_left;simp only [Act.put,sA_,sB_,sC_,i64_w,i32_w];rfl
 refine pv_ (i:=12) (N:=some 29) (v:=?_) (a':=?_) rfl rfl (by kernel_rfl) (fun _ _ _ h => h) (Or.inl ⟨by rfl,?_⟩) ?_ ?_
 rotate_left;intro w';go_simp;with_reducible rfl;rotate_left;simp only [Act.put,sA_,sB_,sC_,i64_w,i32_w];rfl
 refine tv_ (i:=4) (N:=some 21) (v:=?_) (a':=?_) rfl rfl (by kernel_rfl) (fun _ _ _ h => h) (Or.inl ⟨by rfl,?_⟩) hHeld ?_ ?_
 rotate_left;rintro w' ⟨s0,s1,s2,s3⟩;go_simp;with_reducible rfl;rotate_left;simp only [Act.put,sA_,sB_,sC_,i64_w,i32_w];rfl
 refine tv_ (i:=6) (N:=some 23) (v:=?_) (a':=?_) rfl rfl (by kernel_rfl) (fun _ _ _ h => h) (Or.inl ⟨by rfl,?_⟩) hHeld ?_ ?_
 rotate_left;rintro w' ⟨s0,s1,s2,s3⟩;go_simp;with_reducible rfl;rotate_left;simp only [Act.put,sA_,sB_,sC_,i64_w,i32_w];rfl
 refine pv_ (i:=7) (N:=some 24) (v:=?_) (a':=?_) rfl rfl (by kernel_rfl) (fun _ _ _ h => h) (Or.inl ⟨by rfl,?_⟩) ?_ ?_
 rotate_left;intro w';go_simp;with_reducible rfl;rotate_left;simp only [Act.put,sA_,sB_,sC_,i64_w,i32_w];rfl
 refine tv_ (i:=8) (N:=some 25) (v:=?_) (a':=?_) rfl rfl (by kernel_rfl) (fun _ _ _ h => h) (Or.inl ⟨by rfl,?_⟩) hHeld ?_ ?_
 rotate_left;rintro w' ⟨s0,s1,s2,s3⟩;go_simp;with_reducible rfl;rotate_left;simp only [Act.put,sA_,sB_,sC_,i64_w,i32_w];rfl
 refine tv_ (i:=11) (N:=some 28) (v:=?_) (a':=?_) rfl rfl (by kernel_rfl) (fun _ _ _ h => h) (Or.inl ⟨by rfl,?_⟩) hHeld ?_ ?_
 rotate_left;rintro w' ⟨s0,s1,s2,s3⟩;go_simp;with_reducible rfl;rotate_left;simp only [Act.put,sA_,sB_,sC_,i64_w,i32_w];rfl
 refine tv_ (i:=13) (N:=some 30) (v:=?_) (a':=?_) rfl rfl (by kernel_rfl) (fun _ _ _ h => h) (Or.inl ⟨by rfl,?_⟩) hHeld ?_ ?_
 rotate_left;rintro w' ⟨s0,s1,s2,s3⟩;go_simp;with_reducible rfl;rotate_left;simp only [Act.put,sA_,sB_,sC_,i64_w,i32_w];rfl
 refine last_ (i:=14) (N:=some 31) #[t_,t_,t_,t_,t_,t_,t_,t_,t_,t_,t_,t_,t_,t_,t_] rfl rfl (by kernel_rfl) (by decide) (fun K hK => ?_)
 refine goes_ Try.func77 (by kernel_rfl) rfl #[.pointer (some ⟨P.ptr,0,none⟩),.int .i64 1,.int .i64 (P.site m),.int .i64 n,.int .i64 m,.int .i64 cver] (by rfl) rfl rfl (by simp only [List.map_toArray,List.map_cons,List.map_nil]; rfl) ?_
 with_reducible refine (send_ok 1 (P.site m) n m cver (hP1.out.drew HF0.out.dom) HF0.out.dom.drew hn).mono ?_
 rintro e w3 ⟨rfl,tag',hP',hF'⟩
 refine ⟨_,rfl,?_⟩
 refine hK.out _ _ ?_
 clear hK K
 refine norm_ (a':=?_) ?_ ?_
 rotate_left
 ·show Act.put _ (some 31) _ = _
  simp only [Act.put,sA_,sB_,sC_,i64_w,i32_w]
  rfl
 refine done_ (by kernel_rfl) ?_
 go_end0
 exact ⟨rfl,tag',hP',((HF0.out.mono (fun _ h => h.elim)).trans (Fr.drew HF0.out.dom)).trans hF'⟩
def freeM (P : PlaceM) (n : Int) (l : List Clm) : PlaceM := l.foldl (fun P c => P.send 5 (P.site c.item) n c.item 0) P
theorem freeM_snoc (P : PlaceM) (n : Int) (l : List Clm) (c : Clm) : freeM P n (l ++ [c]) = (freeM P n l).send 5 (P.site c.item) n c.item 0 := by
 have hs : ∀ (l : List Clm) (P : PlaceM),(freeM P n l).sites = P.sites := by
  intro l
  induction l with
  | nil => intro P; rfl
  | cons c l ih => intro P; exact ih _
 rw [freeM,List.foldl_append]
 show (freeM P n l).send 5 ((freeM P n l).site c.item) n c.item 0 = _
 rw [PlaceM.site,PlaceM.site,hs]
theorem freeM_same (n : Int) : ∀ (l : List Clm) (P : PlaceM),(freeM P n l).ptr = P.ptr ∧ (freeM P n l).sites = P.sites ∧ (freeM P n l).items = P.items ∧ (freeM P n l).props = P.props ∧ (freeM P n l).came = P.came ∧ (freeM P n l).no = P.no ∧ (freeM P n l).out.length = P.out.length + l.length ∧ (freeM P n l).pm = P.pm
 | [],P => ⟨rfl,rfl,rfl,rfl,rfl,rfl,rfl,rfl⟩
 | c :: l,P => by
  have := freeM_same n l (P.send 5 (P.site c.item) n c.item 0)
  refine ⟨this.1,this.2.1,this.2.2.1,this.2.2.2.1,this.2.2.2.2.1,this.2.2.2.2.2.1,?_,this.2.2.2.2.2.2.2⟩
  have h := this.2.2.2.2.2.2.1
  rw [List.length_cons]
  refine h.trans ?_
  simp [PlaceM.send]
  omega
theorem free_ok {tag : Nat → Tag} {k : Nat} {P : PlaceM} {w : World} {n : Int} {x : PropM} (hP : PRep tag k w P) (hok : TagOk tag w) (hx : (n,x) ∈ P.props) (hg : x.granted ≤ x.claims.length)
  (hc : ∀ c ∈ x.claims,∃ m : Nat,c.item = m ∧ m < P.sites.length) (hn : P.out.length + x.claims.length ≤ 1000000) :
  Calls Try.prog 76 #[.pointer (some ⟨P.ptr,0,none⟩),.int .i64 n,.pointer (some ⟨x.ptr,0,none⟩)] w fun e w' => e = .returned (.tuple #[]) ∧
   ∃ tag',PRep tag' k w' (freeM P n (x.claims.take x.granted)) ∧ Fr (fun t => t = (k,1,0) ∨ t = (k,5,0)) tag tag' w w' := by
 obtain ⟨xv,hxc,hxr⟩ := (hP.props n x hx).cells
 obtain ⟨A,cap,rfl,hl1,hl2⟩ := hxr.form
 unfold maxLen at hl2
 have x0 : w.cell? ⟨x.ptr,0,none⟩ = some (.slice A x.claims.length cap) := cell_of hxc 0
 have x2 : w.cell? ⟨x.ptr,2,none⟩ = some (.int .i64 x.granted) := cell_of hxc 2
 have HP := Lib.hid hP
 have HX := Lib.hid hx
 have HXR := Lib.hid hxr
 have HCL := Lib.hid hc
 clear hP hxc hx hxr hc
 have i1 : (0 : Int) ≤ (x.granted : Int) := by omega
 have i2 : (x.granted : Int) ≤ (cap : Int) := by omega
 go_enter Try.func76,Try.ntmps76
 go_wp2_with fail
 go_quiet (fail)
 go_wp2_with fail
 go_loopw [18] (fun i wr => ∃ j : Nat,j ≤ x.granted ∧ i = .int .i64 j ∧ ∃ tagr,Hid (PRep tagr k wr (freeM P n (x.claims.take j))) ∧ Hid (Fr (fun t => t = (k,1,0) ∨ t = (k,5,0)) tag tagr w wr)) (fun i _ => x.granted - (intOf i).toNat)
 case atStart => exact ⟨0,Nat.zero_le _,rfl,tag,Lib.hid (HP.out.fr (S:=fun _ => False) (Fr.drewN hok nq) (fun _ _ x => x)),Lib.hid (Fr.drewN hok nq)⟩
 case round =>
  obtain ⟨j,hj,rfl,tagr,HPr,HFr⟩ := hrel
  have hsm := freeM_same n (x.claims.take j) P
  by_cases hjl : j < x.granted
  ·have hjc : j < x.claims.length := by omega
   obtain ⟨⟨ci,cver⟩,hx⟩ : ∃ c,x.claims[j]? = some c := ⟨_,List.getElem?_eq_getElem hjc⟩
   obtain ⟨m,hm1,hm⟩ := HCL.out _ (List.mem_of_getElem? hx)
   simp at hm1
   subst hm1
   obtain ⟨b,rfl,hbt,hb,hce⟩ := Row.elem (enc := Clm.cells) HXR.out (fun _ => rfl) (by decide) hx
   have e0 : wr.cell? ⟨b,j * 2,none⟩ = some (.int .i64 m) := HFr.out.cell (hce 0 _ rfl) (by simp [hbt])
   have e1 : wr.cell? ⟨b,j * 2 + 1,none⟩ = some (.int .i64 cver) := HFr.out.cell (hce 1 _ rfl) (by simp [hbt])
   have htk : x.claims.take (j + 1) = x.claims.take j ++ [⟨m,cver⟩] := by
    rw [List.take_succ_eq_append_getElem hjc]
    congr 2
    exact (List.getElem?_eq_some_iff.1 hx).2
   have HT := Lib.hid htk
   clear hce hx hbt htk
   obtain ⟨sv,iv,ov,cv,hc,h2,h3,h4,h5⟩ := HPr.out.cells
   rw [hsm.2.1] at h2
   obtain ⟨sb,scap,rfl,hs1,hs2,hs⟩ := PRep.site_cell (P := P) h2 hm
   unfold maxLen at hs2
   have c1 : wr.cell? ⟨P.ptr,1,none⟩ = some (.slice (some ⟨sb,0,none⟩) P.sites.length scap) := by
    have := cell_of hc 1
    rw [hsm.1] at this
    exact this
   clear hc h2 h3 h4 h5
   have i3 : (0 : Int) ≤ (m : Int) := by omega
   have i4 : (m : Int) < (P.sites.length : Int) := by omega
   have i5 : (0 : Int) ≤ (j : Int) := by omega
   have i6 : (j : Int) < (x.granted : Int) := by omega
   have HSM := Lib.hid hsm
   clear hsm
   have hokr := HFr.out.dom
   go_wp2_with fail
   have hF0 : Fr (fun _ => False) tagr tagr wr (wr.alloc (.cells #[.int .i64 (m : Int),.int .i64 cver] 69)) := Fr.alloc hokr _
   have hP1 := Lib.hid (HPr.out.fr hF0 (fun _ _ x => x))
   have hlen : (freeM P n (x.claims.take j)).out.length ≤ 1000000 := by rw [HSM.out.2.2.2.2.2.2.1,List.length_take]; omega
   have HF0 := Lib.hid hF0
   clear hF0
   refine start_ (n:=13) (S:=fun w' => w'.cell? ⟨P.ptr,1,none⟩ = some (.slice (some ⟨sb,0,none⟩) P.sites.length scap) ∧ w'.cell? ⟨wr.heap.size,0,none⟩ = some (.int .i64 m) ∧ w'.cell? ⟨sb,m,none⟩ = some (.int .i64 (P.site m))) (ds := [12]) #[f_,f_,f_,f_,f_,f_,f_,f_,f_,f_,f_,f_,f_] (by kernel_rfl) rfl rfl ⟨HF0.out.cellF c1,by go_simp,HF0.out.cellF hs⟩ (fun hHeld => ?_)
   refine pv_ (i:=0) (N:=some 22) (v:=?_) (a':=?_) rfl rfl (by kernel_rfl) (fun _ _ _ h => h) (Or.inl ⟨by rfl,?_⟩) ?_ ?_
   rotate_left;intro w';go_simp;with_reducible rfl;rotate_left;simp only [Act.put,sA_,sB_,sC_,i64_w,i32_w];rfl
   refine pv_ (i:=1) (N:=some 23) (v:=?_) (a':=?_) rfl rfl (by kernel_rfl) (fun _ _ _ h => h) (Or.inl ⟨by rfl,?_⟩) ?_ ?_
   rotate_left;intro w';go_simp;with_reducible rfl;rotate_left;simp only [Act.put,sA_,sB_,sC_,i64_w,i32_w];rfl
   refine pv_ (i:=2) (N:=some 24) (v:=?_) (a':=?_) rfl rfl (by kernel_rfl) (fun _ _ _ h => h) (Or.inl ⟨by rfl,?_⟩) ?_ ?_
   rotate_left;intro w';go_simp;with_reducible rfl;rotate_left;simp only [Act.put,sA_,sB_,sC_,i64_w,i32_w];rfl
   refine pv_ (i:=3) (N:=some 25) (v:=?_) (a':=?_) rfl rfl (by kernel_rfl) (fun _ _ _ h => h) (Or.inl ⟨by rfl,?_⟩) ?_ ?_
   rotate_left;intro w';go_simp;with_reducible rfl;rotate_left;simp only [Act.put,sA_,sB_,sC_,i64_w,i32_w];rfl
   refine pv_ (i:=5) (N:=some 27) (v:=?_) (a':=?_) rfl rfl (by kernel_rfl) (fun _ _ _ h => h) (Or.inl ⟨by rfl,?_⟩) ?_ ?_
   rotate_left;intro w';go_simp;with_reducible rfl;rotate_left;simp only [Act.put,sA_,sB_,sC_,i64_w,i32_w];rfl
   refine pv_ (i:=9) (N:=some 31) (v:=?_) (a':=?_) rfl rfl (by kernel_rfl) (fun _ _ _ h => h) (Or.inl ⟨by rfl,?_⟩) ?_ ?_
   rotate_left;intro w';go_simp;with_reducible rfl;rotate_left;simp only [Act.put,sA_,sB_,sC_,i64_w,i32_w];rfl
   refine pv_ (i:=10) (N:=some 32) (v:=?_) (a':=?_) rfl rfl (by kernel_rfl) (fun _ _ _ h => h) (Or.inl ⟨by rfl,?_⟩) ?_ ?_
   rotate_left;intro w';go_simp;with_reducible rfl;rotate_left;simp only [Act.put,sA_,sB_,sC_,i64_w,i32_w];rfl
   refine tv_ (i:=4) (N:=some 26) (v:=?_) (a':=?_) rfl rfl (by kernel_rfl) (fun _ _ _ h => h) (Or.inl ⟨by rfl,?_⟩) hHeld ?_ ?_
   rotate_left;rintro w' ⟨s0,s1,s2⟩;go_simp;with_reducible rfl;rotate_left;simp only [Act.put,sA_,sB_,sC_,i64_w,i32_w];rfl
   refine tv_ (i:=6) (N:=some 28) (v:=?_) (a':=?_) rfl rfl (by kernel_rfl) (fun _ _ _ h => h) (Or.inl ⟨by rfl,?_⟩) hHeld ?_ ?_
   rotate_left;rintro w' ⟨s0,s1,s2⟩;go_simp;with_reducible rfl;rotate_left;simp only [Act.put,sA_,sB_,sC_,i64_w,i32_w];rfl
   refine pv_ (i:=7) (N:=some 29) (v:=?_) (a':=?_) rfl rfl (by kernel_rfl) (fun _ _ _ h => h) (Or.inl ⟨by rfl,?_⟩) ?_ ?_
   rotate_left;intro w';go_simp;with_reducible rfl;rotate_left;simp only [Act.put,sA_,sB_,sC_,i64_w,i32_w];rfl
   refine tv_ (i:=8) (N:=some 30) (v:=?_) (a':=?_) rfl rfl (by kernel_rfl) (fun _ _ _ h => h) (Or.inl ⟨by rfl,?_⟩) hHeld ?_ ?_
   rotate_left;rintro w' ⟨s0,s1,s2⟩;go_simp;with_reducible rfl;rotate_left;simp only [Act.put,sA_,sB_,sC_,i64_w,i32_w];rfl
   refine tv_ (i:=11) (N:=some 33) (v:=?_) (a':=?_) rfl rfl (by kernel_rfl) (fun _ _ _ h => h) (Or.inl ⟨by rfl,?_⟩) hHeld ?_ ?_
   rotate_left;rintro w' ⟨s0,s1,s2⟩;go_simp;with_reducible rfl;rotate_left;simp only [Act.put,sA_,sB_,sC_,i64_w,i32_w];rfl
   refine last_ (i:=12) (N:=some 34) #[t_,t_,t_,t_,t_,t_,t_,t_,t_,t_,t_,t_,t_] rfl rfl (by kernel_rfl) (by decide) (fun K hK => ?_)
   refine goes_ Try.func77 (by kernel_rfl) rfl #[.pointer (some ⟨P.ptr,0,none⟩),.int .i64 5,.int .i64 (P.site m),.int .i64 n,.int .i64 m,.int .i64 0] (by rfl) rfl rfl (by simp only [List.map_toArray,List.map_cons,List.map_nil]; rfl) ?_
   rw [← HSM.out.1]
   with_reducible refine (send_ok 5 (P.site m) n m 0 (hP1.out.drew HF0.out.dom) HF0.out.dom.drew hlen).mono ?_
   rw [HSM.out.1]
   rintro e w3 ⟨rfl,tag',hP',hF'⟩
   refine ⟨_,rfl,?_⟩
   refine hK.out _ _ ?_
   clear hK K
   refine norm_ (a':=?_) ?_ ?_
   rotate_left
   ·show Act.put _ (some 34) _ = _
    simp only [Act.put,sA_,sB_,sC_,i64_w,i32_w]
    rfl
   refine done_ (by kernel_rfl) ?_
   go_wp2_with fail
   go_roundw
   case rel =>
    refine ⟨j + 1,by omega,by go_num,tag',Lib.hid ?_,Lib.hid (HFr.out.trans (((HF0.out.mono (fun _ h => h.elim)).trans (Fr.drew HF0.out.dom)).trans hF'))⟩
    rw [HT.out,freeM_snoc]
    exact hP'
   case measure => simp [intOf]; omega
  ·have : j = x.granted := by omega
   subst this
   go_wp2
   go_end0
   exact ⟨rfl,tagr,HPr.out,HFr.out⟩
theorem _root_.Go.Ng.Fr.dN {S : Tag → Prop} {tag tag' : Nat → Tag} {w w' : World} (h : Fr S tag tag' w w') (n : Nat) : Fr S tag tag' w (w'.drewN n) := h.trans (Fr.drewN h.dom n)
theorem _root_.Go.Ng.Fr.dr {S : Tag → Prop} {tag tag' : Nat → Tag} {w w' : World} (h : Fr S tag tag' w w') : Fr S tag tag' w w'.drew := h.trans (Fr.drew h.dom)
theorem _root_.Go.Ng.Fr.al {S : Tag → Prop} {tag tag' : Nat → Tag} {w w' : World} (h : Fr S tag tag' w w') (o : Obj) : Fr S tag tag' w (w'.alloc o) := h.trans (Fr.alloc h.dom o)
theorem _root_.Go.Ng.Fr.sc {S : Tag → Prop} {tag tag' : Nat → Tag} {w w' : World} (h : Fr S tag tag' w w') (b o : Nat) (v : Value) (hb : S (tag' b)) : Fr S tag tag' w (w'.setCell ⟨b,o,none⟩ v) := h.trans (Fr.setCell h.dom (a := ⟨b,o,none⟩) hb v)
def Post.val (m : Post) : Value := .agg #[.int .i64 m.kind,.int .i64 m.src,.int .i64 m.dst,.int .i64 m.prop,.int .i64 m.item,.int .i64 m.version]
def propPtr : Option PropM → Value
 | none => .pointer none
 | some x => .pointer (some ⟨x.ptr,0,none⟩)
def openM (P : PlaceM) (m : Post) : Option PropM :=
 match find P.props m.prop with
 | none => none
 | some x => if x.state = 1 ∧ (x.claims[x.granted]?.map (·.item)) = some m.item then some x else none
theorem find_mem {l : List (Int × PropM)} {n : Int} {x : PropM} (h : find l n = some x) : (n,x) ∈ l := by
 unfold find at h
 rw [Option.map_eq_some_iff] at h
 obtain ⟨y,hy,rfl⟩ := h
 have h1 := List.mem_of_find?_eq_some hy
 have h2 := List.find?_some hy
 have h3 : y.1 = n := by simpa using h2
 rw [← h3]
 exact h1
theorem look_prop {tag : Nat → Tag} {k : Nat} {P : PlaceM} {w : World} (hP : PRep tag k w P) (n : Int) :
  (Instr.lookup 110 (.map (some P.pm)) (.int .i64 n) false).run Try.prog w = .ok (propPtr (find P.props n)) w := by
 have := run_look (P := Try.prog) (T := 110) (K := 3) (E := 130) (fun x : Int × PropM => x.1) (fun x => .pointer (some ⟨x.2.ptr,0,none⟩)) (.pointer none) hP.pm Try.underlying110 Try.underlying3 (by kernel_rfl) n
 refine this.trans (congrArg (fun v => Result.ok v w) ?_)
 unfold lookV find
 cases List.find? (fun x => x.1 == n) P.props <;> rfl
theorem PRep.drewN {tag : Nat → Tag} {k : Nat} {P : PlaceM} {w : World} (h : PRep tag k w P) (hok : TagOk tag w) (q : Nat) : PRep tag k (w.drewN q) P := h.fr (S:=fun _ => False) (Fr.drewN hok q) (fun _ _ x => x)
theorem PRep.alloc {tag : Nat → Tag} {k : Nat} {P : PlaceM} {w : World} (h : PRep tag k w P) (hok : TagOk tag w) (o : Obj) : PRep tag k (w.alloc o) P := h.fr (S:=fun _ => False) (Fr.alloc hok o) (fun _ _ x => x)
theorem open_ok {tag : Nat → Tag} {k : Nat} {P : PlaceM} {w : World} (m : Post) (hP : PRep tag k w P) (hok : TagOk tag w) (ho : ∀ n x,(n,x) ∈ P.props → x.state = 1 → x.granted < x.claims.length) :
  Calls Try.prog 126 #[.pointer (some ⟨P.ptr,0,none⟩),Post.val m] w fun e w' => e = .returned (propPtr (openM P m)) ∧ Fr (fun _ => False) tag tag w w' := by
 obtain ⟨sv,iv,ov,cv,hc,h2,h3,h4,h5⟩ := hP.cells
 have c3 : w.cell? ⟨P.ptr,3,none⟩ = some (.map (some P.pm)) := cell_of hc 3
 have hpl := lt_of_heap hc
 have hlk : ∀ nq,(Instr.lookup 110 (.map (some P.pm)) (.int .i64 m.prop) false).run Try.prog ((w.alloc (.cells #[.int .i64 m.kind,.int .i64 m.src,.int .i64 m.dst,.int .i64 m.prop,.int .i64 m.item,.int .i64 m.version] 49)).drewN nq) = .ok (propPtr (find P.props m.prop)) ((w.alloc (.cells #[.int .i64 m.kind,.int .i64 m.src,.int .i64 m.dst,.int .i64 m.prop,.int .i64 m.item,.int .i64 m.version] 49)).drewN nq) :=
  fun nq => look_prop ((hP.alloc hok _).drewN (hok.alloc _) nq) m.prop
 have hlk0 : (Instr.lookup 110 (.map (some P.pm)) (.int .i64 m.prop) false).run Try.prog ((w.alloc (.cells #[.int .i64 m.kind,.int .i64 m.src,.int .i64 m.dst,.int .i64 m.prop,.int .i64 m.item,.int .i64 m.version] 49))) = .ok (propPtr (find P.props m.prop)) ((w.alloc (.cells #[.int .i64 m.kind,.int .i64 m.src,.int .i64 m.dst,.int .i64 m.prop,.int .i64 m.item,.int .i64 m.version] 49))) :=
  look_prop (hP.alloc hok _) m.prop
 have HP := Lib.hid hP
 clear hP hc h2 h3 h4 h5
 unfold Post.val
 cases hf : find P.props m.prop with
 | none =>
  have hopen : openM P m = none := by simp [openM,hf]
  rw [hopen]
  rw [hf] at hlk hlk0
  simp only [propPtr] at hlk hlk0 ⊢
  clear hf hopen
  go_enter Try.func126,Try.ntmps126
  go_wp2_with fail
  go_quiet (fail)
  go_wp2_with fail
  go_quiet (fail)
  go_wp2
  go_ret
  exact ⟨rfl,(((Fr.refl hok).al _).dN _).dN _⟩
 | some x =>
  have hxm := find_mem hf
  obtain ⟨xv,hxc,hxr⟩ := (HP.out.props _ x hxm).cells
  have hptr : x.ptr < w.heap.size := lt_of_heap hxc
  have x0 := cell_of hxc 0
  have x1 : w.cell? ⟨x.ptr,1,none⟩ = some (.int .i64 x.state) := cell_of hxc 1
  rw [hf] at hlk hlk0
  simp only [propPtr] at hlk hlk0
  by_cases hst : x.state = 1
  ·have hgl := ho _ x hxm hst
   obtain ⟨⟨ci,cver⟩,hg⟩ : ∃ c,x.claims[x.granted]? = some c := ⟨_,List.getElem?_eq_getElem hgl⟩
   obtain ⟨A,cap,rfl,hl1,hl2⟩ := hxr.form
   unfold maxLen at hl2
   obtain ⟨b,rfl,_,hb,hce⟩ := Row.elem (enc := Clm.cells) hxr (fun _ => rfl) (by decide) hg
   have e0 : w.cell? ⟨b,x.granted * 2,none⟩ = some (.int .i64 ci) := hce 0 _ rfl
   have x0' : w.cell? ⟨x.ptr,0,none⟩ = some (.slice (some ⟨b,0,none⟩) x.claims.length cap) := x0
   have x2 : w.cell? ⟨x.ptr,2,none⟩ = some (.int .i64 x.granted) := cell_of hxc 2
   have x1' : w.cell? ⟨x.ptr,1,none⟩ = some (.int .i64 1) := by rw [x1,hst]
   have i1 : (0 : Int) ≤ (x.granted : Int) := by omega
   have i2 : (x.granted : Int) < (x.claims.length : Int) := by omega
   have hopen : openM P m = if ci = m.item then some x else none := by simp [openM,hf,hst,hg]
   have HO := Lib.hid hopen
   clear hopen hf hst x1 x0 hce hg hxr hxc
   by_cases hi : ci = m.item
   ·rw [HO.out,if_pos hi]
    have hi' : (ci != m.item) = false := by rw [hi]; simp
    clear HO hi
    simp only [propPtr]
    go_enter Try.func126,Try.ntmps126
    go_wp2_with fail
    go_quiet (fail)
    go_wp2_with fail
    go_quiet (fail)
    go_wp2
    go_ret
    exact ⟨rfl,(((Fr.refl hok).al _).dN _).dN _⟩
   ·rw [HO.out,if_neg hi]
    have hi' : (ci != m.item) = true := by rw [bne_iff_ne]; exact hi
    clear HO hi
    simp only [propPtr]
    go_enter Try.func126,Try.ntmps126
    go_wp2_with fail
    go_quiet (fail)
    go_wp2_with fail
    go_quiet (fail)
    go_wp2
    go_ret
    exact ⟨rfl,(((Fr.refl hok).al _).dN _).dN _⟩
  ·have hopen : openM P m = none := by simp [openM,hf,hst]
   rw [hopen]
   have hs' : (x.state != 1) = true := by rw [bne_iff_ne]; exact hst
   clear hopen hf hst
   simp only [propPtr]
   go_enter Try.func126,Try.ntmps126
   go_wp2_with fail
   go_quiet (fail)
   go_wp2_with fail
   go_quiet (fail)
   go_wp2
   go_ret
   exact ⟨rfl,(((Fr.refl hok).al _).dN _).dN _⟩
def setProp (P : PlaceM) (n : Int) (x : PropM) : PlaceM := { P with props := upd P.props n x }
theorem mem_upd {l : List (Int × PropM)} {n : Int} {x y : PropM} (h : (n,y) ∈ l) : (n,x) ∈ upd l n x := by
 simp only [upd,List.mem_map]
 exact ⟨(n,y),h,by simp⟩
section
variable {tag : Nat → Tag} {k : Nat} {P : PlaceM} {w : World} {n : Int} {x : PropM}
theorem PRep.set_granted (hP : PRep tag k w P) (hok : TagOk tag w) (hx : (n,x) ∈ P.props) (hu : ∀ y,(n,y) ∈ P.props → y = x) (g : Nat) :
  PRep tag k (w.setCell ⟨x.ptr,2,none⟩ (.int .i64 (g : Int))) (setProp P n { x with granted := g }) ∧ Fr (fun t => t = (k,10,n)) tag tag w (w.setCell ⟨x.ptr,2,none⟩ (.int .i64 (g : Int))) := by
 have h := hP.props n x hx
 obtain ⟨cv,hc,hr⟩ := h.cells
 have hF : Fr (fun t => t = (k,10,n)) tag tag w (w.setCell ⟨x.ptr,2,none⟩ (.int .i64 (g : Int))) := Fr.setCell hok (a := ⟨x.ptr,2,none⟩) h.tptr _
 refine ⟨hP.prop_upd hu rfl ⟨h.tptr,cv,?_,hr.fr hF (by simp)⟩ hF (fun t h => .inl h),hF⟩
 rw [Go.Ng.heap_setCell_same hc]; rfl
theorem PRep.set_state (hP : PRep tag k w P) (hok : TagOk tag w) (hx : (n,x) ∈ P.props) (hu : ∀ y,(n,y) ∈ P.props → y = x) (s : Int) :
  PRep tag k (w.setCell ⟨x.ptr,1,none⟩ (.int .i64 s)) (setProp P n { x with state := s }) ∧ Fr (fun t => t = (k,10,n)) tag tag w (w.setCell ⟨x.ptr,1,none⟩ (.int .i64 s)) := by
 have h := hP.props n x hx
 obtain ⟨cv,hc,hr⟩ := h.cells
 have hF : Fr (fun t => t = (k,10,n)) tag tag w (w.setCell ⟨x.ptr,1,none⟩ (.int .i64 s)) := Fr.setCell hok (a := ⟨x.ptr,1,none⟩) h.tptr _
 refine ⟨hP.prop_upd hu rfl ⟨h.tptr,cv,?_,hr.fr hF (by simp)⟩ hF (fun t h => .inl h),hF⟩
 rw [Go.Ng.heap_setCell_same hc]; rfl
end
theorem uniq_upd {l : List (Int × PropM)} {n : Int} {x : PropM} : ∀ y,(n,y) ∈ upd l n x → y = x := by
 intro y hy
 rcases upd_mem hy with ⟨_,h⟩ | ⟨h,_⟩
 ·exact h
 ·exact absurd rfl h
structure WF (P : PlaceM) : Prop where
 uniq : ∀ n x y,(n,x) ∈ P.props → (n,y) ∈ P.props → x = y
 opens : ∀ n x,(n,x) ∈ P.props → x.state = 1 → x.granted < x.claims.length
 le : ∀ n x,(n,x) ∈ P.props → x.granted ≤ x.claims.length
 few : ∀ n x,(n,x) ∈ P.props → x.claims.length ≤ 64
 claims : ∀ n x,(n,x) ∈ P.props → ∀ c ∈ x.claims,∃ m : Nat,c.item = m ∧ m < P.sites.length
 sites : P.sites.length ≤ 64
 items : P.items.length = P.sites.length
def refusedM (P : PlaceM) (m : Post) : PlaceM :=
 match openM P m with
 | none => P
 | some x => freeM ((setProp P m.prop { x with state := 3 }).happen 2 m.prop (-1)) m.prop (x.claims.take x.granted)
theorem openM_mem {P : PlaceM} {m : Post} {x : PropM} (h : openM P m = some x) : (m.prop,x) ∈ P.props ∧ x.state = 1 := by
 unfold openM at h
 split at h
 ·cases h
 ·rename_i y hy
  split at h
  ·rename_i hc
   injection h with h
   subst h
   exact ⟨find_mem hy,hc.1⟩
  ·cases h
theorem refused_ok {tag : Nat → Tag} {k : Nat} {P : PlaceM} {w : World} (m : Post) (hP : PRep tag k w P) (hok : TagOk tag w) (hW : WF P) (hn : P.out.length ≤ 100000) (hn2 : P.came.length ≤ 100000) :
  Calls Try.prog 112 #[.pointer (some ⟨P.ptr,0,none⟩),Post.val m] w fun e w' => e = .returned (.tuple #[]) ∧
   ∃ tag',PRep tag' k w' (refusedM P m) ∧ Fr (fun t => t.1 = k) tag tag' w w' := by
 have HP := Lib.hid hP
 have HW := Lib.hid hW
 have hP0 := Lib.hid (hP.alloc hok (.cells #[.int .i64 m.kind,.int .i64 m.src,.int .i64 m.dst,.int .i64 m.prop,.int .i64 m.item,.int .i64 m.version] 49))
 have hk0 := hP.k0
 clear hP hW
 cases ho : openM P m with
 | none =>
  have hm : refusedM P m = P := by simp [refusedM,ho]
  rw [hm]
  have HO := Lib.hid ho
  clear ho hm
  unfold Post.val
  go_enter Try.func112,Try.ntmps112
  go_wp2_with (go_at_call 126; refine (open_ok m hP0.out (hok.alloc _) HW.out.opens).mono ?_; rw [HO.out,propPtr]; rintro e w' ⟨rfl,hF⟩)
  ((try simp only [Exit.inBlock,Exit.then]); refine bodyPost_ret (results_none rfl _ _ _) rfl ?_)
  exact ⟨rfl,tag,hP0.out.fr hF (fun _ _ x => x),((Fr.alloc hok _).trans hF).mono (fun _ h => h.elim)⟩
 | some x =>
  obtain ⟨hx,hst⟩ := openM_mem ho
  have hu : ∀ y,(m.prop,y) ∈ P.props → y = x := fun y hy => HW.out.uniq _ _ _ hy hx
  have hm : refusedM P m = freeM ((setProp P m.prop { x with state := 3 }).happen 2 m.prop (-1)) m.prop (x.claims.take x.granted) := by simp [refusedM,ho]
  rw [hm]
  have HO := Lib.hid ho
  have hle := HW.out.le _ _ hx
  have hfew := HW.out.few _ _ hx
  have hcl := Lib.hid (HW.out.claims _ _ hx)
  have HX := Lib.hid hx
  have HU := Lib.hid hu
  have hxp : x.ptr < w.heap.size := by obtain ⟨cv,h1,_⟩ := (HP.out.props _ _ hx).cells; exact lt_of_heap h1
  clear ho hm hx hu hst
  unfold Post.val
  go_enter Try.func112,Try.ntmps112
  go_wp2_with (go_at_call 126; refine (open_ok m hP0.out (hok.alloc _) HW.out.opens).mono ?_; rw [HO.out,propPtr]; rintro e w1 ⟨rfl,hF1⟩; have hP1 := Lib.hid (hP0.out.fr hF1 (fun _ _ x => x)); obtain ⟨cv,hxc,hxr⟩ := (hP1.out.props _ _ HX.out).cells; have x1 : w1.cell? ⟨x.ptr,1,none⟩ = some (.int .i64 x.state) := cell_of hxc 1; have f1 := free_of hxc 1; have e3 : w1.cell? ⟨w.heap.size,3,none⟩ = some (.int .i64 m.prop) := hF1.cellF (by go_simp); have e0 : w1.cell? ⟨w.heap.size,0,none⟩ = some (.int .i64 m.kind) := hF1.cellF (by go_simp); clear hxc hxr)
  obtain ⟨hP2,hF2⟩ := hP1.out.set_state hF1.dom HX.out HU.out 3
  have HP2 := Lib.hid hP2
  have HF2 := Lib.hid hF2
  have hb : tag w.heap.size ≠ (k,1,0) ∧ tag w.heap.size ≠ (k,6,0) ∧ tag w.heap.size ≠ (k,10,m.prop) := ⟨new_ne hok hk0,new_ne hok hk0,new_ne hok hk0⟩
  have e3' : (w1.setCell ⟨x.ptr,1,none⟩ (.int .i64 3)).cell? ⟨w.heap.size,3,none⟩ = some (.int .i64 m.prop) := hF2.cell e3 (fun h => hb.2.2 h)
  clear hP2 hF2
  go_wp2_with (go_at_call 131; refine (happen_ok 2 m.prop (-1) HP2.out HF2.out.dom (by show P.came.length ≤ 1000000; omega)).mono ?_; rintro e w2 ⟨rfl,tag2,hP3,hF3⟩; have HP3 := Lib.hid hP3; have HF3 := Lib.hid hF3; have e3'' : w2.cell? ⟨w.heap.size,3,none⟩ = some (.int .i64 m.prop) := hF3.cell e3' (fun h => by rcases h with h | h; exact hb.1 h; exact hb.2.1 h); clear hP3 hF3)
  go_wp2_with (go_at_call 76; refine (free_ok (x := { x with state := 3 }) HP3.out HF3.out.dom (mem_upd HX.out) hle hcl.out (by show P.out.length + x.claims.length ≤ 1000000; omega)).mono ?_; rintro e w3 ⟨rfl,tag3,hP4,hF4⟩)
  go_end0
  refine ⟨rfl,tag3,hP4,?_⟩
  exact ((((Fr.alloc hok _).trans hF1).mono (fun _ h => h.elim)).trans (HF2.out.mono (fun t (h : t = _) => by rw [h]))).trans ((HF3.out.mono (fun t h => by rcases h with h | h <;> rw [h])).trans (hF4.mono (fun t h => by rcases h with h | h <;> rw [h])))
def commitM (P : PlaceM) (n : Int) (l : List Clm) : PlaceM := l.foldl (fun P c => P.send 4 (P.site c.item) n c.item 0) P
theorem commitM_snoc (P : PlaceM) (n : Int) (l : List Clm) (c : Clm) : commitM P n (l ++ [c]) = (commitM P n l).send 4 (P.site c.item) n c.item 0 := by
 have hs : ∀ (l : List Clm) (P : PlaceM),(commitM P n l).sites = P.sites := by
  intro l
  induction l with
  | nil => intro P; rfl
  | cons c l ih => intro P; exact ih _
 rw [commitM,List.foldl_append]
 show (commitM P n l).send 4 ((commitM P n l).site c.item) n c.item 0 = _
 rw [PlaceM.site,PlaceM.site,hs]
theorem commitM_same (n : Int) : ∀ (l : List Clm) (P : PlaceM),(commitM P n l).ptr = P.ptr ∧ (commitM P n l).sites = P.sites ∧ (commitM P n l).items = P.items ∧ (commitM P n l).props = P.props ∧ (commitM P n l).came = P.came ∧ (commitM P n l).no = P.no ∧ (commitM P n l).out.length = P.out.length + l.length ∧ (commitM P n l).pm = P.pm
 | [],P => ⟨rfl,rfl,rfl,rfl,rfl,rfl,rfl,rfl⟩
 | c :: l,P => by
  have := commitM_same n l (P.send 4 (P.site c.item) n c.item 0)
  refine ⟨this.1,this.2.1,this.2.2.1,this.2.2.2.1,this.2.2.2.2.1,this.2.2.2.2.2.1,?_,this.2.2.2.2.2.2.2⟩
  have h := this.2.2.2.2.2.2.1
  rw [List.length_cons]
  refine h.trans ?_
  simp [PlaceM.send]
  omega
theorem upd_upd (l : List (Int × PropM)) (n : Int) (x y : PropM) : upd (upd l n x) n y = upd l n y := by
 rw [upd,upd,List.map_map]
 refine List.map_congr_left fun z _ => ?_
 simp only [Function.comp]
 by_cases e : z.1 = n
 ·rw [if_pos e,if_pos rfl]
  rw [if_pos e]
 ·rw [if_neg e,if_neg e]
def grantedM (P : PlaceM) (m : Post) : PlaceM :=
 match openM P m with
 | none => P
 | some x =>
  match x.claims[x.granted + 1]? with
  | some c => (setProp P m.prop { x with granted := x.granted + 1 }).send 1 (P.site c.item) m.prop c.item c.version
  | none => commitM ((setProp P m.prop { x with granted := x.granted + 1,state := 2 }).happen 1 m.prop (-1)) m.prop x.claims
theorem granted_ok {tag : Nat → Tag} {k : Nat} {P : PlaceM} {w : World} (m : Post) (hP : PRep tag k w P) (hok : TagOk tag w) (hW : WF P) (hn : P.out.length ≤ 100000) (hn2 : P.came.length ≤ 100000) :
  Calls Try.prog 111 #[.pointer (some ⟨P.ptr,0,none⟩),Post.val m] w fun e w' => e = .returned (.tuple #[]) ∧
   ∃ tag',PRep tag' k w' (grantedM P m) ∧ Fr (fun t => t.1 = k) tag tag' w w' := by
 have HP := Lib.hid hP
 have HW := Lib.hid hW
 have hP0 := Lib.hid (hP.alloc hok (.cells #[.int .i64 m.kind,.int .i64 m.src,.int .i64 m.dst,.int .i64 m.prop,.int .i64 m.item,.int .i64 m.version] 49))
 have hk0 := hP.k0
 clear hP hW
 cases ho : openM P m with
 | none =>
  have hm : grantedM P m = P := by simp [grantedM,ho]
  rw [hm]
  have HO := Lib.hid ho
  clear ho hm
  unfold Post.val
  go_enter Try.func111,Try.ntmps111
  go_wp2_with (go_at_call 126; refine (open_ok m hP0.out (hok.alloc _) HW.out.opens).mono ?_; rw [HO.out,propPtr]; rintro e w' ⟨rfl,hF⟩)
  ((try simp only [Exit.inBlock,Exit.then]); refine bodyPost_ret (results_none rfl _ _ _) rfl ?_)
  exact ⟨rfl,tag,hP0.out.fr hF (fun _ _ x => x),((Fr.alloc hok _).trans hF).mono (fun _ h => h.elim)⟩
 | some x =>
  obtain ⟨hx,hst⟩ := openM_mem ho
  have hu : ∀ y,(m.prop,y) ∈ P.props → y = x := fun y hy => HW.out.uniq _ _ _ hy hx
  have HO := Lib.hid ho
  have hlt := HW.out.opens _ _ hx hst
  have hfew := HW.out.few _ _ hx
  have hcl := Lib.hid (HW.out.claims _ _ hx)
  have HX := Lib.hid hx
  have HU := Lib.hid hu
  have hxp : x.ptr < w.heap.size := by obtain ⟨cv,h1,_⟩ := (HP.out.props _ _ hx).cells; exact lt_of_heap h1
  clear hx hu hst
  have hb : tag w.heap.size ≠ (k,1,0) ∧ tag w.heap.size ≠ (k,6,0) ∧ tag w.heap.size ≠ (k,10,m.prop) ∧ tag w.heap.size ≠ (k,5,0) := ⟨new_ne hok hk0,new_ne hok hk0,new_ne hok hk0,new_ne hok hk0⟩
  by_cases hmore : x.granted + 1 < x.claims.length
  ·obtain ⟨c,hc⟩ : ∃ c,x.claims[x.granted + 1]? = some c := ⟨_,List.getElem?_eq_getElem hmore⟩
   obtain ⟨ci,cver⟩ := c
   obtain ⟨mi,hmi,hml⟩ := hcl.out _ (List.mem_of_getElem? hc)
   simp at hmi
   subst hmi
   have hm : grantedM P m = (setProp P m.prop { x with granted := x.granted + 1 }).send 1 (P.site mi) m.prop mi cver := by simp [grantedM,ho,hc]
   rw [hm]
   have HC := Lib.hid hc
   have hmI : (x.granted : Int) + 1 < (x.claims.length : Int) := by omega
   have hgI : (0 : Int) ≤ (x.granted : Int) := by omega
   clear ho hm hc
   unfold Post.val
   go_enter Try.func111,Try.ntmps111
   go_wp2_with (go_at_call 126; refine (open_ok m hP0.out (hok.alloc _) HW.out.opens).mono ?_; rw [HO.out,propPtr]; rintro e w1 ⟨rfl,hF1⟩; have hP1 := Lib.hid (hP0.out.fr hF1 (fun _ _ x => x)); obtain ⟨cv,hxc,hxr⟩ := (hP1.out.props _ _ HX.out).cells; obtain ⟨A,cap,rfl,hl1,hl2⟩ := hxr.form; unfold maxLen at hl2; have x0 : w1.cell? ⟨x.ptr,0,none⟩ = some (.slice A x.claims.length cap) := cell_of hxc 0; have x2 : w1.cell? ⟨x.ptr,2,none⟩ = some (.int .i64 x.granted) := cell_of hxc 2; have f2 := free_of hxc 2; have e3 : w1.cell? ⟨w.heap.size,3,none⟩ = some (.int .i64 m.prop) := hF1.cellF (by go_simp); clear hxc hxr)
   obtain ⟨hP2,hF2⟩ := hP1.out.set_granted hF1.dom HX.out HU.out (x.granted + 1)
   rw [show ((x.granted + 1 : Nat) : Int) = (x.granted : Int) + 1 from by omega] at hP2 hF2
   have e3' : (w1.setCell ⟨x.ptr,2,none⟩ (.int .i64 ((x.granted : Int) + 1))).cell? ⟨w.heap.size,3,none⟩ = some (.int .i64 m.prop) := hF2.cell e3 (fun h => hb.2.2.1 h)
   have HP2 := Lib.hid hP2
   have HF2 := Lib.hid hF2
   clear hP2 hF2
   go_quiet (fail)
   have HP3 := Lib.hid (HP2.out.drewN HF2.out.dom nq)
   go_wp2_with (go_at_call 71; refine (ask_ok (x := { x with granted := x.granted + 1 }) HP3.out HF2.out.dom (mem_upd HX.out) HC.out hml (by show P.out.length ≤ 1000000; omega)).mono ?_; rintro e w3 ⟨rfl,tag3,hP4,hF4⟩)
   ((try simp only [Exit.inBlock,Exit.then]); refine bodyPost_ret (results_none rfl _ _ _) rfl ?_)
   refine ⟨rfl,tag3,hP4,?_⟩
   exact (((((Fr.alloc hok _).trans hF1).mono (fun _ h => h.elim)).trans (HF2.out.mono (fun t (h : t = _) => by rw [h]))).dN nq).trans (hF4.mono (fun t h => by rcases h with h | h <;> rw [h]))
  ·have hc : x.claims[x.granted + 1]? = none := List.getElem?_eq_none (by omega)
   have hm : grantedM P m = commitM ((setProp P m.prop { x with granted := x.granted + 1,state := 2 }).happen 1 m.prop (-1)) m.prop x.claims := by simp [grantedM,ho,hc]
   rw [hm]
   have hmI : (x.claims.length : Int) ≤ (x.granted : Int) + 1 := by omega
   have hgI : (0 : Int) ≤ (x.granted : Int) := by omega
   clear ho hm hc
   unfold Post.val
   go_enter Try.func111,Try.ntmps111
   go_wp2_with (go_at_call 126; refine (open_ok m hP0.out (hok.alloc _) HW.out.opens).mono ?_; rw [HO.out,propPtr]; rintro e w1 ⟨rfl,hF1⟩; have hP1 := Lib.hid (hP0.out.fr hF1 (fun _ _ x => x)); obtain ⟨cv,hxc,hxr⟩ := (hP1.out.props _ _ HX.out).cells; obtain ⟨A,cap,rfl,hl1,hl2⟩ := hxr.form; unfold maxLen at hl2; have x0 : w1.cell? ⟨x.ptr,0,none⟩ = some (.slice A x.claims.length cap) := cell_of hxc 0; have x1 : w1.cell? ⟨x.ptr,1,none⟩ = some (.int .i64 x.state) := cell_of hxc 1; have x2 : w1.cell? ⟨x.ptr,2,none⟩ = some (.int .i64 x.granted) := cell_of hxc 2; have f1 := free_of hxc 1; have f2 := free_of hxc 2; have e3 : w1.cell? ⟨w.heap.size,3,none⟩ = some (.int .i64 m.prop) := hF1.cellF (by go_simp); have HXR := Lib.hid hxr; clear hxc hxr)
   obtain ⟨hP2,hF2⟩ := hP1.out.set_granted hF1.dom HX.out HU.out (x.granted + 1)
   rw [show ((x.granted + 1 : Nat) : Int) = (x.granted : Int) + 1 from by omega] at hP2 hF2
   have e3' : (w1.setCell ⟨x.ptr,2,none⟩ (.int .i64 ((x.granted : Int) + 1))).cell? ⟨w.heap.size,3,none⟩ = some (.int .i64 m.prop) := hF2.cell e3 (fun h => hb.2.2.1 h)
   have HP2 := Lib.hid hP2
   have HF2 := Lib.hid hF2
   clear hP2 hF2
   go_quiet (fail)
   obtain ⟨hP3,hF3⟩ := (HP2.out.drewN HF2.out.dom nq).set_state (HF2.out.dom) (mem_upd HX.out) (uniq_upd) 2
   have hE : ∀ a b : PropM,setProp (setProp P m.prop a) m.prop b = setProp P m.prop b := fun a b => by simp only [setProp,upd_upd]
   rw [hE] at hP3
   have HP3 : Hid (PRep tag k (((w1.setCell ⟨x.ptr,2,none⟩ (.int .i64 ((x.granted : Int) + 1))).setCell ⟨x.ptr,1,none⟩ (.int .i64 2)).drewN nq) (setProp P m.prop { x with granted := x.granted + 1,state := 2 })) := Lib.hid hP3
   have HF3 : Hid (Fr (fun t => t = (k,10,m.prop)) tag tag w1 (((w1.setCell ⟨x.ptr,2,none⟩ (.int .i64 ((x.granted : Int) + 1))).setCell ⟨x.ptr,1,none⟩ (.int .i64 2)).drewN nq)) := Lib.hid ((HF2.out.dN nq).trans hF3)
   have e3'' : (((w1.setCell ⟨x.ptr,2,none⟩ (.int .i64 ((x.granted : Int) + 1))).setCell ⟨x.ptr,1,none⟩ (.int .i64 2)).drewN nq).cell? ⟨w.heap.size,3,none⟩ = some (.int .i64 m.prop) := HF3.out.cell e3 (fun h => hb.2.2.1 h)
   clear hP3 hF3 hE
   go_wp2_with (
    go_at_call 131
    refine (happen_ok 1 m.prop (-1) HP3.out HF3.out.dom (by show P.came.length ≤ 1000000; omega)).mono ?_
    rintro e w2 ⟨rfl,tag2,hP4,hF4⟩
    have hb2 : w.heap.size < w1.heap.size := by have := hF1.size; simp at this; omega
    have ht2 : tag2 w.heap.size = tag w.heap.size := by
     rw [hF4.same _ (by simpa using hb2)]
    have hxr4 : Row tag2 (k,11,m.prop) 69 2 w2 (.slice A x.claims.length cap) x.claims.length (claims x.claims) := (HXR.out.fr HF3.out (by simp)).fr hF4 (by simp)
    have hx4 := Lib.hid ((hP4.props _ _ (mem_upd HX.out)))
    have hxw : ∃ w0,w0 = 0 := ⟨0,rfl⟩
    have g0 : w2.cell? ⟨x.ptr,0,none⟩ = some (.slice A x.claims.length cap) := by
     have hpt : tag x.ptr = (k,10,m.prop) := (HP.out.props _ _ HX.out).tptr
     refine hF4.cell ?_ (by rw [hpt]; simp)
     go_simp
    have e4 : w2.cell? ⟨w.heap.size,3,none⟩ = some (.int .i64 m.prop) := hF4.cell e3'' (fun h => by rcases h with h | h; exact hb.1 h; exact hb.2.1 h)
    have hbw2 : w.heap.size < w2.heap.size := World.block_lt_of_cell? w2 _ e4
    have HP4 := Lib.hid hP4
    have HF4 := Lib.hid hF4
    have HXR4 := Lib.hid hxr4
    have HT2 := Lib.hid ht2
    clear hP4 hF4 hxr4 ht2 x0 x1 x2 f1 f2 e3 e3' e3'' hx4 hxw)
   go_loopw [46] (fun i wr => ∃ j : Nat,j ≤ x.claims.length ∧ i = .int .i64 j ∧ ∃ tagr,Hid (PRep tagr k wr (commitM ((setProp P m.prop { x with granted := x.granted + 1,state := 2 }).happen 1 m.prop (-1)) m.prop (x.claims.take j))) ∧ Hid (Fr (fun t => t = (k,1,0) ∨ t = (k,5,0)) tag2 tagr w2 wr)) (fun i _ => x.claims.length - (intOf i).toNat)
   case atStart => exact ⟨0,Nat.zero_le _,rfl,tag2,Lib.hid HP4.out,Lib.hid (Fr.refl HF4.out.dom)⟩
   case round =>
    obtain ⟨j,hj,rfl,tagr,HPr,HFr⟩ := hrel
    have hsm := commitM_same m.prop (x.claims.take j) ((setProp P m.prop { x with granted := x.granted + 1,state := 2 }).happen 1 m.prop (-1))
    have hs1 : (commitM ((setProp P m.prop { x with granted := x.granted + 1,state := 2 }).happen 1 m.prop (-1)) m.prop (x.claims.take j)).ptr = P.ptr := hsm.1
    have hs2 : (commitM ((setProp P m.prop { x with granted := x.granted + 1,state := 2 }).happen 1 m.prop (-1)) m.prop (x.claims.take j)).sites = P.sites := hsm.2.1
    have hs3 : (commitM ((setProp P m.prop { x with granted := x.granted + 1,state := 2 }).happen 1 m.prop (-1)) m.prop (x.claims.take j)).out.length = P.out.length + (x.claims.take j).length := hsm.2.2.2.2.2.2.1
    by_cases hjl : j < x.claims.length
    ·obtain ⟨⟨ci,cver⟩,hx⟩ : ∃ c,x.claims[j]? = some c := ⟨_,List.getElem?_eq_getElem hjl⟩
     obtain ⟨mi,hm1,hm⟩ := hcl.out _ (List.mem_of_getElem? hx)
     simp at hm1
     subst hm1
     obtain ⟨b,rfl,hbt,hb5,hce⟩ := Row.elem (enc := Clm.cells) HXR4.out (fun _ => rfl) (by decide) hx
     have e0 : wr.cell? ⟨b,j * 2,none⟩ = some (.int .i64 mi) := HFr.out.cell (hce 0 _ rfl) (by simp [hbt])
     have e1 : wr.cell? ⟨b,j * 2 + 1,none⟩ = some (.int .i64 cver) := HFr.out.cell (hce 1 _ rfl) (by simp [hbt])
     have e5 : wr.cell? ⟨w.heap.size,3,none⟩ = some (.int .i64 m.prop) := HFr.out.cell e4 (fun h => by rw [HT2.out] at h; rcases h with h | h; exact hb.1 h; exact hb.2.2.2 h)
     have htk : x.claims.take (j + 1) = x.claims.take j ++ [⟨mi,cver⟩] := by
      rw [List.take_succ_eq_append_getElem hjl]
      congr 2
      exact (List.getElem?_eq_some_iff.1 hx).2
     have HT := Lib.hid htk
     clear hce hx hbt htk
     obtain ⟨sv,iv,ov,cv,hc,h2,h3,h4,h5⟩ := HPr.out.cells
     rw [hs2] at h2
     obtain ⟨sb,scap,rfl,hq1,hq2,hs⟩ := PRep.site_cell (P := P) h2 hm
     unfold maxLen at hq2
     have c1 : wr.cell? ⟨P.ptr,1,none⟩ = some (.slice (some ⟨sb,0,none⟩) P.sites.length scap) := by
      have := cell_of hc 1
      rw [hs1] at this
      exact this
     clear hc h2 h3 h4 h5
     have i3 : (0 : Int) ≤ (mi : Int) := by omega
     have i4 : (mi : Int) < (P.sites.length : Int) := by omega
     have i5 : (0 : Int) ≤ (j : Int) := by omega
     have i6 : (j : Int) < (x.claims.length : Int) := by omega
     have HS1 := Lib.hid hs1
     have HS2 := Lib.hid hs2
     have HS3 := Lib.hid hs3
     clear hsm hs1 hs2 hs3
     have hokr := HFr.out.dom
     have hbr : w.heap.size < wr.heap.size := World.block_lt_of_cell? wr _ e5
     go_wp2_with fail
     have hF0 : Fr (fun _ => False) tagr tagr wr (wr.alloc (.cells #[.int .i64 (mi : Int),.int .i64 cver] 69)) := Fr.alloc hokr _
     have hP1 := Lib.hid (HPr.out.fr hF0 (fun _ _ x => x))
     have hlen : (commitM ((setProp P m.prop { x with granted := x.granted + 1,state := 2 }).happen 1 m.prop (-1)) m.prop (x.claims.take j)).out.length ≤ 1000000 := by rw [HS3.out,List.length_take]; omega
     have HF0 := Lib.hid hF0
     clear hF0
     refine start_ (n:=14) (S:=fun w' => w'.cell? ⟨P.ptr,1,none⟩ = some (.slice (some ⟨sb,0,none⟩) P.sites.length scap) ∧ w'.cell? ⟨wr.heap.size,0,none⟩ = some (.int .i64 mi) ∧ w'.cell? ⟨sb,mi,none⟩ = some (.int .i64 (P.site mi)) ∧ w'.cell? ⟨w.heap.size,3,none⟩ = some (.int .i64 m.prop)) (ds := [13]) #[f_,f_,f_,f_,f_,f_,f_,f_,f_,f_,f_,f_,f_,f_] (by kernel_rfl) rfl rfl ⟨HF0.out.cellF c1,by go_simp,HF0.out.cellF hs,HF0.out.cellF e5⟩ (fun hHeld => ?_)
     refine pv_ (i:=0) (N:=some 50) (v:=?_) (a':=?_) rfl rfl (by kernel_rfl) (fun _ _ _ h => h) (Or.inl ⟨by rfl,?_⟩) ?_ ?_
     rotate_left;intro w';go_simp;with_reducible rfl;rotate_left;simp only [Act.put,sA_,sB_,sC_,i64_w,i32_w];rfl
     refine pv_ (i:=1) (N:=some 51) (v:=?_) (a':=?_) rfl rfl (by kernel_rfl) (fun _ _ _ h => h) (Or.inl ⟨by rfl,?_⟩) ?_ ?_
     rotate_left;intro w';go_simp;with_reducible rfl;rotate_left;simp only [Act.put,sA_,sB_,sC_,i64_w,i32_w];rfl
     refine pv_ (i:=2) (N:=some 52) (v:=?_) (a':=?_) rfl rfl (by kernel_rfl) (fun _ _ _ h => h) (Or.inl ⟨by rfl,?_⟩) ?_ ?_
     rotate_left;intro w';go_simp;with_reducible rfl;rotate_left;simp only [Act.put,sA_,sB_,sC_,i64_w,i32_w];rfl
     refine pv_ (i:=3) (N:=some 53) (v:=?_) (a':=?_) rfl rfl (by kernel_rfl) (fun _ _ _ h => h) (Or.inl ⟨by rfl,?_⟩) ?_ ?_
     rotate_left;intro w';go_simp;with_reducible rfl;rotate_left;simp only [Act.put,sA_,sB_,sC_,i64_w,i32_w];rfl
     refine pv_ (i:=5) (N:=some 55) (v:=?_) (a':=?_) rfl rfl (by kernel_rfl) (fun _ _ _ h => h) (Or.inl ⟨by rfl,?_⟩) ?_ ?_
     rotate_left;intro w';go_simp;with_reducible rfl;rotate_left;simp only [Act.put,sA_,sB_,sC_,i64_w,i32_w];rfl
     refine pv_ (i:=9) (N:=some 59) (v:=?_) (a':=?_) rfl rfl (by kernel_rfl) (fun _ _ _ h => h) (Or.inl ⟨by rfl,?_⟩) ?_ ?_
     rotate_left;intro w';go_simp;with_reducible rfl;rotate_left;simp only [Act.put,sA_,sB_,sC_,i64_w,i32_w];rfl
     refine pv_ (i:=11) (N:=some 61) (v:=?_) (a':=?_) rfl rfl (by kernel_rfl) (fun _ _ _ h => h) (Or.inl ⟨by rfl,?_⟩) ?_ ?_
     rotate_left;intro w';go_simp;with_reducible rfl;rotate_left;simp only [Act.put,sA_,sB_,sC_,i64_w,i32_w];rfl
     refine tv_ (i:=4) (N:=some 54) (v:=?_) (a':=?_) rfl rfl (by kernel_rfl) (fun _ _ _ h => h) (Or.inl ⟨by rfl,?_⟩) hHeld ?_ ?_
     rotate_left;rintro w' ⟨s0,s1,s2,s3⟩;go_simp;with_reducible rfl;rotate_left;simp only [Act.put,sA_,sB_,sC_,i64_w,i32_w];rfl
     refine tv_ (i:=6) (N:=some 56) (v:=?_) (a':=?_) rfl rfl (by kernel_rfl) (fun _ _ _ h => h) (Or.inl ⟨by rfl,?_⟩) hHeld ?_ ?_
     rotate_left;rintro w' ⟨s0,s1,s2,s3⟩;go_simp;with_reducible rfl;rotate_left;simp only [Act.put,sA_,sB_,sC_,i64_w,i32_w];rfl
     refine pv_ (i:=7) (N:=some 57) (v:=?_) (a':=?_) rfl rfl (by kernel_rfl) (fun _ _ _ h => h) (Or.inl ⟨by rfl,?_⟩) ?_ ?_
     rotate_left;intro w';go_simp;with_reducible rfl;rotate_left;simp only [Act.put,sA_,sB_,sC_,i64_w,i32_w];rfl
     refine tv_ (i:=8) (N:=some 58) (v:=?_) (a':=?_) rfl rfl (by kernel_rfl) (fun _ _ _ h => h) (Or.inl ⟨by rfl,?_⟩) hHeld ?_ ?_
     rotate_left;rintro w' ⟨s0,s1,s2,s3⟩;go_simp;with_reducible rfl;rotate_left;simp only [Act.put,sA_,sB_,sC_,i64_w,i32_w];rfl
     refine tv_ (i:=10) (N:=some 60) (v:=?_) (a':=?_) rfl rfl (by kernel_rfl) (fun _ _ _ h => h) (Or.inl ⟨by rfl,?_⟩) hHeld ?_ ?_
     rotate_left;rintro w' ⟨s0,s1,s2,s3⟩;go_simp;with_reducible rfl;rotate_left;simp only [Act.put,sA_,sB_,sC_,i64_w,i32_w];rfl
     refine tv_ (i:=12) (N:=some 62) (v:=?_) (a':=?_) rfl rfl (by kernel_rfl) (fun _ _ _ h => h) (Or.inl ⟨by rfl,?_⟩) hHeld ?_ ?_
     rotate_left;rintro w' ⟨s0,s1,s2,s3⟩;go_simp;with_reducible rfl;rotate_left;simp only [Act.put,sA_,sB_,sC_,i64_w,i32_w];rfl
     refine last_ (i:=13) (N:=some 63) #[t_,t_,t_,t_,t_,t_,t_,t_,t_,t_,t_,t_,t_,t_] rfl rfl (by kernel_rfl) (by decide) (fun K hK => ?_)
     refine goes_ Try.func77 (by kernel_rfl) rfl #[.pointer (some ⟨P.ptr,0,none⟩),.int .i64 4,.int .i64 (P.site mi),.int .i64 m.prop,.int .i64 mi,.int .i64 0] (by rfl) rfl rfl (by simp only [List.map_toArray,List.map_cons,List.map_nil]; rfl) ?_
     rw [← HS1.out]
     with_reducible refine (send_ok 4 (P.site mi) m.prop mi 0 (hP1.out.drew HF0.out.dom) HF0.out.dom.drew hlen).mono ?_
     rw [HS1.out]
     rintro e w3 ⟨rfl,tag',hP',hF'⟩
     refine ⟨_,rfl,?_⟩
     refine hK.out _ _ ?_
     clear hK K
     refine norm_ (a':=?_) ?_ ?_
     rotate_left
     ·show Act.put _ (some 63) _ = _
      simp only [Act.put,sA_,sB_,sC_,i64_w,i32_w]
      rfl
     refine done_ (by kernel_rfl) ?_
     go_wp2_with fail
     go_roundw
     case rel =>
      refine ⟨j + 1,by omega,by go_num,tag',Lib.hid ?_,Lib.hid (HFr.out.trans (((HF0.out.mono (fun _ h => h.elim)).trans (Fr.drew HF0.out.dom)).trans hF'))⟩
      rw [HT.out,commitM_snoc]
      exact hP'
     case measure => simp [intOf]; omega
    ·have : j = x.claims.length := by omega
     subst this
     go_wp2
     go_end0
     have hPe := HPr.out
     rw [List.take_length] at hPe
     refine ⟨rfl,tagr,hPe,?_⟩
     exact ((((Fr.alloc hok _).trans hF1).mono (fun _ h => h.elim)).trans (HF3.out.mono (fun t (h : t = _) => by rw [h]))).trans ((HF4.out.mono (fun t h => by rcases h with h | h <;> rw [h])).trans (HFr.out.mono (fun t h => by rcases h with h | h <;> rw [h])))
theorem PRep.item_cell {tag : Nat → Tag} {k j : Nat} {P : PlaceM} {it : ItemM} {w : World} {v : Value} (h3 : Row tag (k,3,0) 114 1 w v P.items.length (P.items.map itemPtr)) (hj : P.items[j]? = some (some it)) :
  ∃ b cap,v = .slice (some ⟨b,0,none⟩) P.items.length cap ∧ P.items.length ≤ cap ∧ cap ≤ maxLen ∧ w.cell? ⟨b,j,none⟩ = some (.pointer (some ⟨it.ptr,0,none⟩)) := by
 obtain ⟨A,cap,rfl,h4,h5⟩ := h3.form
 have hl := (List.getElem?_eq_some_iff.1 hj).1
 obtain ⟨b,rfl,_,_,hc⟩ := h3.cell rfl (j:=j) (by rw [List.length_map]; exact hl)
 refine ⟨b,cap,rfl,h4,h5,?_⟩
 rw [hc,List.getElem?_map,hj]
 rfl
theorem _root_.Go.Calls.quiet_at {P : Program} {f : FuncId} {args : Array Value} {W : World} {V : Nat → World} {v : Value}
  (h : Calls P f args W fun e w' => e = .returned v ∧ w' = W) (hW : ∃ m,W = V m) : Calls P f args W fun e w'' => e = .returned v ∧ ∃ m,w'' = V m :=
 h.mono fun _ _ ⟨he,hm⟩ => ⟨he,by rw [hm]; exact hW⟩
theorem is_val (b : Nat) (held : Bool) (hp p : Int) (w : World) (v : Bool) (hv : (held && hp == p) = v) (c0 : w.cell? ⟨b,0,none⟩ = some (.bool held)) (c1 : w.cell? ⟨b,1,none⟩ = some (.int .i64 hp)) :
  Calls Try.prog 124 #[.pointer (some ⟨b,0,none⟩),.int .i64 p] w fun e w' => e = .returned (.bool v) ∧ w' = w := hv ▸ is_ok b held hp p w c0 c1
def refuseAll (j : Nat) (n : Int) : List Asker → PlaceM → ItemM → PlaceM
 | [],P,_ => P
 | a :: l,P,it => refuseAll j n l (refuseM P j it n a) { it with through := addT a.prop it.through }
def throughAll : List Asker → ItemM → ItemM
 | [],it => it
 | a :: l,it => throughAll l { it with through := addT a.prop it.through }
theorem refuseAll_snoc (j : Nat) (n : Int) (a : Asker) : ∀ (l : List Asker) (P : PlaceM) (it : ItemM),refuseAll j n (l ++ [a]) P it = refuseM (refuseAll j n l P it) j (throughAll l it) n a
 | [],P,it => rfl
 | b :: l,P,it => refuseAll_snoc j n a l _ _
theorem throughAll_same : ∀ (l : List Asker) (it : ItemM),(throughAll l it).ptr = it.ptr ∧ (throughAll l it).tm = it.tm
 | [],it => ⟨rfl,rfl⟩
 | b :: l,it => throughAll_same l { it with through := addT b.prop it.through }
theorem refuseAll_same (j : Nat) (n : Int) : ∀ (l : List Asker) (P : PlaceM) (it : ItemM),P.items[j]? = some (some it) →
  (refuseAll j n l P it).ptr = P.ptr ∧ (refuseAll j n l P it).out.length = P.out.length + l.length ∧ (refuseAll j n l P it).items[j]? = some (some (throughAll l it)) ∧ (refuseAll j n l P it).sites = P.sites ∧ (refuseAll j n l P it).props = P.props ∧ (refuseAll j n l P it).came = P.came ∧ (refuseAll j n l P it).no = P.no
 | [],P,it,h => ⟨rfl,rfl,h,rfl,rfl,rfl,rfl⟩
 | a :: l,P,it,h => by
  have hl := (List.getElem?_eq_some_iff.1 h).1
  have := refuseAll_same j n l (refuseM P j it n a) { it with through := addT a.prop it.through } (by simp [refuseM,PlaceM.send,PlaceM.setItem,hl])
  refine ⟨this.1,?_,this.2.2.1,this.2.2.2.1,this.2.2.2.2.1,this.2.2.2.2.2.1,this.2.2.2.2.2.2⟩
  refine this.2.1.trans ?_
  simp [refuseM,PlaceM.send,PlaceM.setItem]
  omega
def committedM (P : PlaceM) (m : Post) (j : Nat) (it : ItemM) : PlaceM :=
 if it.held = true ∧ it.lk.prop = m.prop then
  refuseAll j m.item it.queue ((P.happen 3 m.prop m.item).setItem j { it with version := it.version + 1,through := addT m.prop it.through,held := false,lk := ⟨0,0⟩,queue := [] })
   { it with version := it.version + 1,through := addT m.prop it.through,held := false,lk := ⟨0,0⟩,queue := [] }
 else P
theorem committed_ok {tag : Nat → Tag} {k j : Nat} {P : PlaceM} {it : ItemM} {w : World} (m : Post) (hP : PRep tag k w P) (hok : TagOk tag w) (hj : P.items[j]? = some (some it)) (hmj : m.item = j)
  (hn : P.out.length ≤ 100000) (hn2 : P.came.length ≤ 100000) (hv : 0 ≤ it.version) (hv2 : it.version ≤ 1000000000) (hq : it.queue.length ≤ 100000) :
  Calls Try.prog 113 #[.pointer (some ⟨P.ptr,0,none⟩),Post.val m] w fun e w' => e = .returned (.tuple #[]) ∧
   ∃ tag',PRep tag' k w' (committedM P m j it) ∧ Fr (fun t => t.1 = k) tag tag' w w' := by
 obtain ⟨mk,ms,md,mp,mi,mv⟩ := m
 simp only at hmj
 subst hmj
 obtain ⟨sv,iv,ov,cv,hc,h2,h3,h4,h5⟩ := hP.cells
 obtain ⟨b,cap,rfl,hl1,hl2,hcell⟩ := PRep.item_cell h3 hj
 unfold maxLen at hl2
 have hjl := (List.getElem?_eq_some_iff.1 hj).1
 have c2 : w.cell? ⟨P.ptr,2,none⟩ = some (.slice (some ⟨b,0,none⟩) P.items.length cap) := cell_of hc 2
 obtain ⟨qv,hic,hqr⟩ := (hP.items j it hj).cells
 have t0 : w.cell? ⟨it.ptr,0,none⟩ = some (.bool it.held) := cell_of hic 0
 have t1 : w.cell? ⟨it.ptr,1,none⟩ = some (.int .i64 it.lk.prop) := cell_of hic 1
 have hpl := lt_of_heap hc
 have hil := lt_of_heap hic
 have hbl := World.block_lt_of_cell? w _ hcell
 have i1 : (0 : Int) ≤ (j : Int) := by omega
 have i2 : (j : Int) < (P.items.length : Int) := by omega
 have HP := Lib.hid hP
 have HJ := Lib.hid hj
 have hk0 := hP.k0
 clear hP hc h2 h3 h4 h5 hic hqr hj
 unfold Post.val
 by_cases hh : it.held = true ∧ it.lk.prop = mp
 ·have hm : committedM P ⟨mk,ms,md,mp,j,mv⟩ j it = refuseAll j j it.queue ((P.happen 3 mp j).setItem j { it with version := it.version + 1,through := addT mp it.through,held := false,lk := ⟨0,0⟩,queue := [] }) { it with version := it.version + 1,through := addT mp it.through,held := false,lk := ⟨0,0⟩,queue := [] } := by simp [committedM,hh]
  rw [hm]
  have hb : (it.held && it.lk.prop == mp) = true := by rw [hh.1,hh.2]; simp
  have HB := Lib.hid hb
  have hne : tag w.heap.size ≠ (k,1,0) ∧ tag w.heap.size ≠ (k,6,0) ∧ tag w.heap.size ≠ (k,5,0) ∧ tag w.heap.size ≠ (k,9,(j : Int)) ∧ tag w.heap.size ≠ (k,7,(j : Int)) := ⟨new_ne hok hk0,new_ne hok hk0,new_ne hok hk0,new_ne hok hk0,new_ne hok hk0⟩
  clear hm hh hb
  go_enter Try.func113,Try.ntmps113
  go_wp2_with fail
  go_quiet (fail)
  obtain ⟨nq_0,hq0⟩ : ∃ n,n = nq := ⟨_,rfl⟩
  subst hq0
  go_wp2_with fail
  go_quiet ((go_at_call 124; refine Calls.quiet_at (is_val it.ptr it.held it.lk.prop mp _ _ HB.out ?_ ?_) ?_; (exact ca t0 _); (exact ca t1 _); exact ⟨_,rfl⟩))
  go_wp2_with (
   go_at_call 131
   refine (happen_ok 3 mp (j : Int) ((HP.out.alloc hok _).drewN (hok.alloc _) _) (hok.alloc _) (by omega)).mono ?_
   rintro e w2 ⟨rfl,tag2,hP2,hF2⟩
   have hF2' := ((Fr.alloc (S:=fun t => t = (k,1,0) ∨ t = (k,6,0)) hok (.cells #[.int .i64 mk,.int .i64 ms,.int .i64 md,.int .i64 mp,.int .i64 (j : Int),.int .i64 mv] 49)).dN (nq_0 + nq)).trans hF2
   have hI2 := hP2.items j it HJ.out
   obtain ⟨qv2,hc2,hqr2⟩ := hI2.cells
   have x3 : w2.cell? ⟨it.ptr,3,none⟩ = some qv2 := cell_of hc2 3
   have x4 : w2.cell? ⟨it.ptr,4,none⟩ = some (.int .i64 it.version) := cell_of hc2 4
   have x5 : w2.cell? ⟨it.ptr,5,none⟩ = some (.map (some it.tm)) := cell_of hc2 5
   have f0 := free_of hc2 0
   have f1 := free_of hc2 1
   have f2 := free_of hc2 2
   have f3 := free_of hc2 3
   have f4 := free_of hc2 4
   have e3 : w2.cell? ⟨w.heap.size,3,none⟩ = some (.int .i64 mp) := hF2.cell (by go_simp) (fun h => by rcases h with h | h; exact hne.1 h; exact hne.2.1 h)
   have e4 : w2.cell? ⟨w.heap.size,4,none⟩ = some (.int .i64 (j : Int)) := hF2.cell (by go_simp) (fun h => by rcases h with h | h; exact hne.1 h; exact hne.2.1 h)
   have hil2 := lt_of_heap hc2
   have hbl2 := World.block_lt_of_cell? w2 _ e3
   have ht0 : tag2 w.heap.size = tag w.heap.size := hF2.same _ (by simp)
   have HP2 := Lib.hid hP2
   have HF2 := Lib.hid hF2'
   have HI2 := Lib.hid hI2
   have HC2 := Lib.hid hc2
   have HQ2 := Lib.hid hqr2
   clear hP2 hF2 hF2' hI2 hc2 hqr2 t0 t1 hcell c2)
  obtain ⟨A,qcap,rfl,hl3,hl4⟩ := HQ2.out.form
  unfold maxLen at hl4
  have ht7 := HI2.out.tptr
  have hF3 : Fr (· = (k,7,(j : Int))) tag2 tag2 w2 (w2.setCell ⟨it.ptr,4,none⟩ (.int .i64 (it.version + 1))).drew := ((Fr.setCell HF2.out.dom (a := ⟨it.ptr,4,none⟩) ht7 _)).dr
  obtain ⟨w4,hrun,⟨o,ho⟩,hm4⟩ := MapIs.add (tag := tag2) (tag' := tag2) (HI2.out.map.fr hF3 (by rw [HI2.out.ttm]; simp)) mp
  have hF4 : Fr (· = (k,9,(j : Int))) tag2 tag2 (w2.setCell ⟨it.ptr,4,none⟩ (.int .i64 (it.version + 1))).drew w4 := by
   rw [ho]; exact Fr.setObj hF3.dom HI2.out.ttm o
  clear ho
  have hc4 : w4.heap[it.ptr]? = _ := hF4.heap (Go.Ng.heap_setCell_same HC2.out 4 (.int .i64 (it.version + 1))) (by rw [ht7]; simp)
  have y3 : w4.cell? ⟨it.ptr,3,none⟩ = some (.slice A it.queue.length qcap) := cell_of hc4 3
  have y0 : w4.cell? ⟨it.ptr,0,none⟩ = some (.bool it.held) := cell_of hc4 0
  have y1 : w4.cell? ⟨it.ptr,1,none⟩ = some (.int .i64 it.lk.prop) := cell_of hc4 1
  have y2 : w4.cell? ⟨it.ptr,2,none⟩ = some (.int .i64 it.lk.place) := cell_of hc4 2
  have g0 := free_of hc4 0
  have g1 := free_of hc4 1
  have g2 := free_of hc4 2
  have g3 := free_of hc4 3
  have hil4 := lt_of_heap hc4
  have HR := Lib.hid hrun
  have HM := Lib.hid hm4
  have HF3 := Lib.hid hF3
  have HF4 := Lib.hid hF4
  have HC4 := Lib.hid hc4
  clear hrun hm4 hF3 hF4 hc4
  refine start_ (n:=7) (S:=fun w' => w'.cell? ⟨it.ptr,5,none⟩ = some (.map (some it.tm)) ∧ w'.cell? ⟨w.heap.size,3,none⟩ = some (.int .i64 mp)) (ds := [6]) #[f_,f_,f_,f_,f_,f_,f_] (by kernel_rfl) rfl rfl ⟨by go_simp,by go_simp⟩ (fun hHeld => ?_)
  refine pv_ (i:=0) (N:=some 36) (v:=?_) (a':=?_) rfl rfl (by kernel_rfl) (fun _ _ _ h => h) (Or.inl ⟨by rfl,?_⟩) ?_ ?_
  rotate_left;intro w';go_simp;with_reducible rfl;rotate_left;simp only [Act.put,sA_,sB_,sC_,i64_w,i32_w];rfl
  refine pv_ (i:=1) (N:=some 37) (v:=?_) (a':=?_) rfl rfl (by kernel_rfl) (fun _ _ _ h => h) (Or.inl ⟨by rfl,?_⟩) ?_ ?_
  rotate_left;intro w';go_simp;with_reducible rfl;rotate_left;simp only [Act.put,sA_,sB_,sC_,i64_w,i32_w];rfl
  refine pv_ (i:=2) (N:=some 38) (v:=?_) (a':=?_) rfl rfl (by kernel_rfl) (fun _ _ _ h => h) (Or.inl ⟨by rfl,?_⟩) ?_ ?_
  rotate_left;intro w';go_simp;with_reducible rfl;rotate_left;simp only [Act.put,sA_,sB_,sC_,i64_w,i32_w];rfl
  refine pv_ (i:=4) (N:=some 40) (v:=?_) (a':=?_) rfl rfl (by kernel_rfl) (fun _ _ _ h => h) (Or.inl ⟨by rfl,?_⟩) ?_ ?_
  rotate_left;intro w';go_simp;with_reducible rfl;rotate_left;simp only [Act.put,sA_,sB_,sC_,i64_w,i32_w];rfl
  refine tv_ (i:=3) (N:=some 39) (v:=?_) (a':=?_) rfl rfl (by kernel_rfl) (fun _ _ _ h => h) (Or.inl ⟨by rfl,?_⟩) hHeld ?_ ?_
  rotate_left;rintro w' ⟨s0,s1⟩;go_simp;with_reducible rfl;rotate_left;simp only [Act.put,sA_,sB_,sC_,i64_w,i32_w];rfl
  refine tv_ (i:=5) (N:=some 41) (v:=?_) (a':=?_) rfl rfl (by kernel_rfl) (fun _ _ _ h => h) (Or.inl ⟨by rfl,?_⟩) hHeld ?_ ?_
  rotate_left;rintro w' ⟨s0,s1⟩;go_simp;with_reducible rfl;rotate_left;simp only [Act.put,sA_,sB_,sC_,i64_w,i32_w];rfl
  refine last_ (i:=6) (N:=none) #[t_,t_,t_,t_,t_,t_,t_] rfl rfl (by kernel_rfl) (by decide) (fun K hK => ?_)
  refine put_arm (T := 66) (by rfl) rfl (.tmp 39) (.tmp 41) (.const (.bool true)) rfl (by rfl) (by rfl) (by rfl) HR.out ?_
  refine hK.out _ _ ?_
  clear hK K
  refine done_ (by kernel_rfl) ?_
  go_wp2_with fail
  have h5 := Lib.hid (Go.Ng.heap_setCell_same (Go.Ng.heap_setCell_same (Go.Ng.heap_setCell_same (Go.Ng.heap_setCell_same HC4.out 0 (.bool false)) 1 (.int .i64 0)) 2 (.int .i64 0)) 3 (.slice none 0 0))
  obtain ⟨w5,hw5⟩ : ∃ w5,w5 = (((w4.setCell ⟨it.ptr,0,none⟩ (.bool false)).setCell ⟨it.ptr,1,none⟩ (.int .i64 0)).setCell ⟨it.ptr,2,none⟩ (.int .i64 0)).setCell ⟨it.ptr,3,none⟩ (.slice none 0 0) := ⟨_,rfl⟩
  rw [← hw5] at h5 ⊢
  have hF5 : Fr (· = (k,7,(j : Int))) tag2 tag2 w4 w5 := by
   rw [hw5]
   exact ((((Fr.refl HF4.out.dom).sc it.ptr 0 _ ht7).sc it.ptr 1 _ ht7).sc it.ptr 2 _ ht7).sc it.ptr 3 _ ht7
  have hF25 : Fr (fun t => t = (k,7,(j : Int)) ∨ t = (k,9,(j : Int))) tag2 tag2 w2 w5 :=
   ((HF3.out.mono (fun _ h => .inl h)).trans (HF4.out.mono (fun _ h => .inr h))).trans (hF5.mono (fun _ h => .inl h))
  have hI5 : ItemRep tag2 k w5 j { it with version := it.version + 1,through := addT mp it.through,held := false,lk := ⟨0,0⟩,queue := [] } :=
   ⟨ht7,HI2.out.ttm,⟨.slice none 0 0,h5.out,Row.nil _ _ _ _ _⟩,HM.out.fr hF5 (by rw [HI2.out.ttm]; simp)⟩
  have HP5 := Lib.hid (HP2.out.item_upd (j:=j) HJ.out (it' := { it with version := it.version + 1,through := addT mp it.through,held := false,lk := ⟨0,0⟩,queue := [] }) rfl hI5 hF25 (fun t h => by rcases h with h | h; exact .inl h; exact .inr (.inr h)))
  have HQ5 := Lib.hid (HQ2.out.fr hF25 (by simp))
  have z4 : w5.cell? ⟨w.heap.size,4,none⟩ = some (.int .i64 (j : Int)) := hF25.cell e4 (fun h => by rw [ht0] at h; rcases h with h | h; exact hne.2.2.2.2 h; exact hne.2.2.2.1 h)
  have HF25 := Lib.hid hF25
  have HT0 := Lib.hid ht0
  clear hw5 hF5 hF25 hI5 ht0 h5 y0 y1 y2 y3 g0 g1 g2 g3 x3 x4 x5 e3 e4 f0 f1 f2 f3 f4 hil2 hil4 ht7
  have hbl5 : w.heap.size < w5.heap.size := World.block_lt_of_cell? w5 _ z4
  have HM0 : ∃ P5,P5 = (P.happen 3 mp j).setItem j { it with version := it.version + 1,through := addT mp it.through,held := false,lk := ⟨0,0⟩,queue := [] } := ⟨_,rfl⟩
  have HM1 : ∃ it5,it5 = ({ it with version := it.version + 1,through := addT mp it.through,held := false,lk := ⟨0,0⟩,queue := [] } : ItemM) := ⟨_,rfl⟩
  obtain ⟨P5,hP5⟩ := HM0
  obtain ⟨it5,hit5⟩ := HM1
  have hj5 : P5.items[j]? = some (some it5) := by rw [hP5,hit5]; simp [PlaceM.setItem,PlaceM.happen,hjl]
  have hip5 : it5.ptr = it.ptr := by rw [hit5]
  have hpp5 : P5.ptr = P.ptr := by rw [hP5]; rfl
  have hol5 : P5.out.length = P.out.length := by rw [hP5]; rfl
  rw [← hP5] at HP5
  have HE5 := Lib.hid hP5
  have HEI := Lib.hid hit5
  have hil5 : it.ptr < w5.heap.size := by
   obtain ⟨_,hx5,_⟩ := (HP5.out.items j it5 hj5).cells
   rw [← hip5]; exact lt_of_heap hx5
  have HJ5 := Lib.hid hj5
  have HIP := Lib.hid hip5
  have HPP := Lib.hid hpp5
  have HOL := Lib.hid hol5
  clear hj5 hip5 hpp5 hP5 hit5 hol5
  go_loopw [53] (fun i wr => ∃ n : Nat,n ≤ it.queue.length ∧ i = .int .i64 n ∧ ∃ tagr,Hid (PRep tagr k wr (refuseAll j j (it.queue.take n) P5 it5)) ∧ Hid (Fr (fun t => t = (k,1,0) ∨ t = (k,5,0) ∨ t = (k,9,(j : Int))) tag2 tagr w5 wr)) (fun i _ => it.queue.length - (intOf i).toNat)
  case atStart => exact ⟨0,Nat.zero_le _,rfl,tag2,Lib.hid HP5.out,Lib.hid (Fr.refl HF25.out.dom)⟩
  case round =>
   obtain ⟨n,hnl,rfl,tagr,HPr,HFr⟩ := hrel
   have hsm := refuseAll_same j j (it.queue.take n) P5 it5 HJ5.out
   have hth := throughAll_same (it.queue.take n) it5
   by_cases hlt : n < it.queue.length
   ·obtain ⟨⟨ap,al⟩,hx⟩ : ∃ c,it.queue[n]? = some c := ⟨_,List.getElem?_eq_getElem hlt⟩
    obtain ⟨qb,rfl,hbt,hb5,hce⟩ := Row.elem (enc := Asker.cells) HQ5.out (fun _ => rfl) (by decide) hx
    have e0 : wr.cell? ⟨qb,n * 2,none⟩ = some (.int .i64 ap) := HFr.out.cell (hce 0 _ rfl) (by simp [hbt])
    have e1 : wr.cell? ⟨qb,n * 2 + 1,none⟩ = some (.int .i64 al) := HFr.out.cell (hce 1 _ rfl) (by simp [hbt])
    have e5 : wr.cell? ⟨w.heap.size,4,none⟩ = some (.int .i64 (j : Int)) := HFr.out.cell z4 (fun h => by rw [HT0.out] at h; rcases h with h | h | h; exact hne.1 h; exact hne.2.2.1 h; exact hne.2.2.2.1 h)
    have htk : it.queue.take (n + 1) = it.queue.take n ++ [⟨ap,al⟩] := by
     rw [List.take_succ_eq_append_getElem hlt]
     congr 2
     exact (List.getElem?_eq_some_iff.1 hx).2
    have HT := Lib.hid htk
    have hbr : w.heap.size < wr.heap.size := World.block_lt_of_cell? wr _ e5
    have hokr := HFr.out.dom
    have HS := Lib.hid hsm
    have HTH := Lib.hid hth
    have hip : (throughAll (it.queue.take n) it5).ptr = it.ptr := hth.1.trans HIP.out
    have hpp : (refuseAll j j (it.queue.take n) P5 it5).ptr = P.ptr := hsm.1.trans HPP.out
    have hlen : (refuseAll j j (it.queue.take n) P5 it5).out.length ≤ 1000000 := by
     rw [hsm.2.1,HOL.out,List.length_take]; omega
    have HIP2 := Lib.hid hip
    have HPP2 := Lib.hid hpp
    have i5 : (0 : Int) ≤ (n : Int) := by omega
    have i6 : (n : Int) < (it.queue.length : Int) := by omega
    clear hce hx hbt htk hsm hth hip hpp
    go_wp2_with (
     go_at_call 128
     rw [← HIP2.out,← HPP2.out]
     refine (refuse_ok (j : Int) ⟨ap,al⟩ (HPr.out.alloc hokr _) (hokr.alloc _) HS.out.2.2.1 hlen).mono ?_
     rw [HIP2.out,HPP2.out]
     rintro e w6 ⟨rfl,tag6,hP6,hF6⟩
     have HP6 := Lib.hid hP6
     have HF6 := Lib.hid hF6
     clear hP6 hF6)
    go_roundw
    case rel =>
     refine ⟨n + 1,by omega,by go_num,tag6,Lib.hid ?_,Lib.hid ((HFr.out.al _).trans HF6.out)⟩
     rw [HT.out,refuseAll_snoc]
     exact HP6.out
    case measure => simp [intOf]; omega
   ·have : n = it.queue.length := by omega
    subst this
    go_wp2
    go_end0
    have hPe := HPr.out
    rw [List.take_length,HE5.out,HEI.out] at hPe
    refine ⟨rfl,tagr,hPe,?_⟩
    exact ((HF2.out.mono (fun t h => by rcases h with h | h <;> rw [h])).trans (HF25.out.mono (fun t h => by rcases h with h | h <;> rw [h]))).trans (HFr.out.mono (fun t h => by rcases h with h | h | h <;> rw [h]))
 ·have hm : committedM P ⟨mk,ms,md,mp,j,mv⟩ j it = P := by simp [committedM,hh]
  rw [hm]
  have hb : (it.held && it.lk.prop == mp) = false := by
   cases h1 : it.held
   ·rfl
   ·simp only [Bool.true_and,beq_eq_false_iff_ne]; exact fun h2 => hh ⟨h1,h2⟩
  have HB := Lib.hid hb
  clear hm hh hb
  go_enter Try.func113,Try.ntmps113
  go_wp2_with fail
  go_quiet (fail)
  go_wp2_with fail
  go_quiet ((go_at_call 124; refine Calls.quiet_at (is_val it.ptr it.held it.lk.prop mp _ _ HB.out ?_ ?_) ?_; (exact ca t0 _); (exact ca t1 _); exact ⟨_,rfl⟩))
  go_wp2_with fail
  ((try simp only [Exit.inBlock,Exit.then]); refine bodyPost_ret (results_none rfl _ _ _) rfl ?_)
  exact ⟨rfl,tag,((HP.out.alloc hok _).drewN (hok.alloc _) _).drewN (hok.alloc _) _,((Fr.alloc hok _).dN _).dN _⟩
end Go.Proofs.Ytclkokkppgchfaa
namespace Go.Ng
open Go
structure FrW (tag : Nat → Tag) (w : World) where
 v : World
 fr : TagOk tag w → Fr (fun _ => False) tag tag w v
instance (tag : Nat → Tag) (w : World) : Inhabited (FrW tag w) := ⟨⟨w,fun h => Fr.refl h⟩⟩
section
variable {tag : Nat → Tag} {w : World}
theorem FrW.cell (p : FrW tag w) (hok : TagOk tag w) {a : Addr} {x : Value} (h : w.cell? a = some x) : p.v.cell? a = some x := (p.fr hok).cellF h
theorem FrW.of {w' : World} (hok : TagOk tag w) (h : ∃ p : FrW tag w,w' = p.v) : Fr (fun _ => False) tag tag w w' := by obtain ⟨p,rfl⟩ := h; exact p.fr hok
theorem Calls.fr_of {P : Program} {f : FuncId} {args : Array Value} {p : FrW tag w} {v : Value} (h : Calls P f args p.v fun e w' => e = .returned v ∧ Fr (fun _ => False) tag tag p.v w') :
  Calls P f args p.v fun e w'' => e = .returned v ∧ ∃ q : FrW tag w,w'' = q.v :=
 h.mono fun _ w' ⟨he,hf⟩ => ⟨he,⟨w',fun hok => (p.fr hok).trans hf⟩,rfl⟩
theorem Calls.fr_same {P : Program} {f : FuncId} {args : Array Value} {p : FrW tag w} {v : Value} (h : Calls P f args p.v fun e w' => e = .returned v ∧ w' = p.v) :
  Calls P f args p.v fun e w'' => e = .returned v ∧ ∃ q : FrW tag w,w'' = q.v :=
 h.mono fun _ w' ⟨he,hf⟩ => ⟨he,p,hf⟩
theorem wp_region_fr {P : Program} {id : Nat} {Q : Exit → Act → World → Prop} {a : Act} {l : List Oper} (hm : P.follows .mixedOrders = true) (hB : Region.lexB .any l.toArray = true)
  (h : wpQuiet P l.toArray (fun w' => ∃ p : FrW tag w,w' = p.v) (fun a' => ∀ w',(∃ p : FrW tag w,w' = p.v) → Q .normal a' w') l a) : (Code.region id l.toArray true).wp P Q a w :=
 wp_region_quiet (C := fun w' => ∃ p : FrW tag w,w' = p.v) hm hB ⟨⟨w.drew,Fr.drew⟩,rfl⟩ (by simpa using h)
end
end Go.Ng
namespace Go.Proofs.Ytclkokkppgchfaa
open Go.RowKit Go.Ng Go.Proofs.YtclkokkppgchfaaW.PrintLast
def askedM (P : PlaceM) (m : Post) (j : Nat) (it : ItemM) : PlaceM :=
 if m.prop ∈ it.through ∨ (it.held = true ∧ it.lk.prop = m.prop) ∨ it.queue.any (isProp m.prop) = true then P
 else if m.version ≠ it.version then refuseM P j it j ⟨m.prop,m.src⟩
 else if it.held = true then P.setItem j { it with queue := it.queue ++ [⟨m.prop,m.src⟩] }
 else grantM P j it j ⟨m.prop,m.src⟩
theorem look_thr {w : World} {b : Nat} {l : List Int} (h : MapIs w b (l.map fun n => (.int .i64 n,.bool true))) (n : Int) :
  (Instr.lookup 66 (.map (some b)) (.int .i64 n) false).run Try.prog w = .ok (.bool (decide (n ∈ l))) w := by
 have := run_look (P := Try.prog) (T := 66) (K := 3) (E := 4) (fun x : Int => x) (fun x => .bool true) (.bool false) h Try.underlying66 Try.underlying3 (by kernel_rfl) n
 refine this.trans (congrArg (fun v => Result.ok v w) ?_)
 unfold lookV
 cases hf : List.find? (fun x => x == n) l with
 | none =>
  have : n ∉ l := by
   rw [List.find?_eq_none] at hf
   intro hm
   exact hf n hm (by simp)
  simp [this]
 | some x =>
  have h1 := List.mem_of_find?_eq_some hf
  have h2 : x = n := by simpa using List.find?_some hf
  simp [← h2,h1]
theorem TagOk.drewN {tag : Nat → Tag} {w : World} (h : TagOk tag w) (n : Nat) : TagOk tag (w.drewN n) := h
theorem waits_val {tag : Nat → Tag} {t : Tag} {v : Value} (l : List Asker) (b : Nat) (p : Int) (w : World) (r : Bool) (hr' : l.any (isProp p) = r) (c3 : w.cell? ⟨b,3,none⟩ = some v) (hr : Row tag t 116 2 w v l.length (askers l)) (hok : TagOk tag w) :
  Calls Try.prog 125 #[.pointer (some ⟨b,0,none⟩),.int .i64 p] w fun e w' => e = .returned (.bool r) ∧ Fr (fun _ => False) tag tag w w' := hr' ▸ waits_ok l b p w c3 hr hok
theorem asked_ok {tag : Nat → Tag} {k j : Nat} {P : PlaceM} {it : ItemM} {w : World} (m : Post) (hP : PRep tag k w P) (hok : TagOk tag w) (hj : P.items[j]? = some (some it)) (hmj : m.item = j)
  (hn : P.out.length ≤ 100000) (hq : it.queue.length ≤ 100000) :
  Calls Try.prog 110 #[.pointer (some ⟨P.ptr,0,none⟩),Post.val m] w fun e w' => e = .returned (.tuple #[]) ∧
   ∃ tag',PRep tag' k w' (askedM P m j it) ∧ Fr (fun t => t.1 = k) tag tag' w w' := by
 obtain ⟨mk,ms,md,mp,mi,mv⟩ := m
 simp only at hmj
 subst hmj
 obtain ⟨sv,iv,ov,cv,hc,h2,h3,h4,h5⟩ := hP.cells
 obtain ⟨b,cap,rfl,hl1,hl2,hcell⟩ := PRep.item_cell h3 hj
 unfold maxLen at hl2
 have hjl := (List.getElem?_eq_some_iff.1 hj).1
 have c2 : w.cell? ⟨P.ptr,2,none⟩ = some (.slice (some ⟨b,0,none⟩) P.items.length cap) := cell_of hc 2
 have HI := Lib.hid (hP.items j it hj)
 have hpl := lt_of_heap hc
 have i1 : (0 : Int) ≤ (j : Int) := by omega
 have i2 : (j : Int) < (P.items.length : Int) := by omega
 have HP := Lib.hid hP
 have HJ := Lib.hid hj
 have hk0 := hP.k0
 clear hP hc h2 h3 h4 h5 hj
 unfold Post.val
 go_enter Try.func110,Try.ntmps110
 go_wp2_with fail
 refine start_ (n:=16) (S:=fun w' => w'.cell? ⟨P.ptr,2,none⟩ = some (.slice (some ⟨b,0,none⟩) P.items.length cap) ∧ w'.cell? ⟨b,j,none⟩ = some (.pointer (some ⟨it.ptr,0,none⟩)) ∧ w'.cell? ⟨w.heap.size,4,none⟩ = some (.int .i64 (j : Int)) ∧ w'.cell? ⟨w.heap.size,3,none⟩ = some (.int .i64 mp) ∧ w'.cell? ⟨w.heap.size,1,none⟩ = some (.int .i64 ms)) (ds := [15]) #[f_,f_,f_,f_,f_,f_,f_,f_,f_,f_,f_,f_,f_,f_,f_,f_] (by kernel_rfl) rfl rfl ⟨ca c2 _,ca hcell _,by go_simp,by go_simp,by go_simp⟩ (fun hHeld => ?_)
 refine pv_ (i:=0) (N:=some 6) (v:=?_) (a':=?_) rfl rfl (by kernel_rfl) (fun _ _ _ h => h) (Or.inl ⟨by rfl,?_⟩) ?_ ?_
 rotate_left;intro w';go_simp;with_reducible rfl;rotate_left;simp only [Act.put,sA_,sB_,sC_,i64_w,i32_w];rfl
 refine pv_ (i:=1) (N:=some 7) (v:=?_) (a':=?_) rfl rfl (by kernel_rfl) (fun _ _ _ h => h) (Or.inl ⟨by rfl,?_⟩) ?_ ?_
 rotate_left;intro w';go_simp;with_reducible rfl;rotate_left;simp only [Act.put,sA_,sB_,sC_,i64_w,i32_w];rfl
 refine pv_ (i:=2) (N:=some 8) (v:=?_) (a':=?_) rfl rfl (by kernel_rfl) (fun _ _ _ h => h) (Or.inl ⟨by rfl,?_⟩) ?_ ?_
 rotate_left;intro w';go_simp;with_reducible rfl;rotate_left;simp only [Act.put,sA_,sB_,sC_,i64_w,i32_w];rfl
 refine pv_ (i:=4) (N:=some 10) (v:=?_) (a':=?_) rfl rfl (by kernel_rfl) (fun _ _ _ h => h) (Or.inl ⟨by rfl,?_⟩) ?_ ?_
 rotate_left;intro w';go_simp;with_reducible rfl;rotate_left;simp only [Act.put,sA_,sB_,sC_,i64_w,i32_w];rfl
 refine pv_ (i:=8) (N:=some 14) (v:=?_) (a':=?_) rfl rfl (by kernel_rfl) (fun _ _ _ h => h) (Or.inl ⟨by rfl,?_⟩) ?_ ?_
 rotate_left;intro w';go_simp;with_reducible rfl;rotate_left;simp only [Act.put,sA_,sB_,sC_,i64_w,i32_w];rfl
 refine pv_ (i:=10) (N:=some 16) (v:=?_) (a':=?_) rfl rfl (by kernel_rfl) (fun _ _ _ h => h) (Or.inl ⟨by rfl,?_⟩) ?_ ?_
 rotate_left;intro w';go_simp;with_reducible rfl;rotate_left;simp only [Act.put,sA_,sB_,sC_,i64_w,i32_w];rfl
 refine tv_ (i:=3) (N:=some 9) (v:=?_) (a':=?_) rfl rfl (by kernel_rfl) (fun _ _ _ h => h) (Or.inl ⟨by rfl,?_⟩) hHeld ?_ ?_
 rotate_left;rintro w' ⟨s0,s1,s2,s3,s4⟩;go_simp;with_reducible rfl;rotate_left;simp only [Act.put,sA_,sB_,sC_,i64_w,i32_w];rfl
 refine tv_ (i:=5) (N:=some 11) (v:=?_) (a':=?_) rfl rfl (by kernel_rfl) (fun _ _ _ h => h) (Or.inl ⟨by rfl,?_⟩) hHeld ?_ ?_
 rotate_left;rintro w' ⟨s0,s1,s2,s3,s4⟩;go_simp;with_reducible rfl;rotate_left;simp only [Act.put,sA_,sB_,sC_,i64_w,i32_w];rfl
 refine pv_ (i:=6) (N:=some 12) (v:=?_) (a':=?_) rfl rfl (by kernel_rfl) (fun _ _ _ h => h) (Or.inl ⟨by rfl,?_⟩) ?_ ?_
 rotate_left;intro w';go_simp;with_reducible rfl;rotate_left;simp only [Act.put,sA_,sB_,sC_,i64_w,i32_w];rfl
 refine tv_ (i:=7) (N:=some 13) (v:=?_) (a':=?_) rfl rfl (by kernel_rfl) (fun _ _ _ h => h) (Or.inl ⟨by rfl,?_⟩) hHeld ?_ ?_
 rotate_left;rintro w' ⟨s0,s1,s2,s3,s4⟩;go_simp;with_reducible rfl;rotate_left;simp only [Act.put,sA_,sB_,sC_,i64_w,i32_w];rfl
 refine tv_ (i:=9) (N:=some 15) (v:=?_) (a':=?_) rfl rfl (by kernel_rfl) (fun _ _ _ h => h) (Or.inl ⟨by rfl,?_⟩) hHeld ?_ ?_
 rotate_left;rintro w' ⟨s0,s1,s2,s3,s4⟩;go_simp;with_reducible rfl;rotate_left;simp only [Act.put,sA_,sB_,sC_,i64_w,i32_w];rfl
 refine tv_ (i:=11) (N:=some 17) (v:=?_) (a':=?_) rfl rfl (by kernel_rfl) (fun _ _ _ h => h) (Or.inl ⟨by rfl,?_⟩) hHeld ?_ ?_
 rotate_left;rintro w' ⟨s0,s1,s2,s3,s4⟩;go_simp;with_reducible rfl;rotate_left;simp only [Act.put,sA_,sB_,sC_,i64_w,i32_w];rfl
 refine pv_ (i:=12) (N:=some 18) (v:=?_) (a':=?_) rfl rfl (by kernel_rfl) (fun _ _ _ h => h) (Or.inl ⟨by rfl,?_⟩) ?_ ?_
 rotate_left;intro w';go_simp;with_reducible rfl;rotate_left;simp only [Act.put,sA_,sB_,sC_,i64_w,i32_w];rfl
 refine one_ (i:=13) (N:=some 5) #[t_,t_,t_,t_,t_,t_,t_,t_,t_,t_,t_,t_,t_,t_,f_,f_] rfl rfl (by kernel_rfl) (by decide) (fun K hK => ?_)
 refine value_ (w1:=?_) (v:=?_) (by rfl) rfl ?_ ?_
 rotate_left 2
 ·go_simp
  constructor
  ·rfl
  ·rfl
 refine hK.out _ _ ⟨(ca hHeld.1 _),(ca hHeld.2.1 _),(ca hHeld.2.2.1 _),(ca hHeld.2.2.2.1 _),(ca hHeld.2.2.2.2 _)⟩ (fun hHeld => ?_)
 clear hK K
 refine norm_ (a':=?_) ?_ ?_
 rotate_left
 ·show Act.put _ (some 5) _ = _
  simp only [Act.put,sA_,sB_,sC_,i64_w,i32_w]
  rfl
 refine pv_ (i:=14) (N:=some 4) (v:=?_) (a':=?_) rfl rfl (by kernel_rfl) (fun _ _ _ h => h) (Or.inl ⟨by rfl,?_⟩) ?_ ?_
 rotate_left;intro w';go_simp;with_reducible rfl;rotate_left;simp only [Act.put,sA_,sB_,sC_,i64_w,i32_w];rfl
 refine last_ (i:=15) (N:=none) #[t_,t_,t_,t_,t_,t_,t_,t_,t_,t_,t_,t_,t_,t_,t_,t_] rfl rfl (by kernel_rfl) (by decide) (fun K hK => ?_)
 refine skip_ (w1:=?_) (by rfl) rfl ?_ ?_
 rotate_left
 ·go_simp
  rfl
 refine hK.out _ _ ?_
 clear hK K
 refine done_ (by kernel_rfl) ?_
 clear hHeld
 obtain ⟨w1,hw1⟩ : ∃ w1,w1 = ((w.alloc (.cells #[.int .i64 mk,.int .i64 ms,.int .i64 md,.int .i64 mp,.int .i64 (j : Int),.int .i64 mv] 49)).alloc (.cells #[.int .i64 mp,.int .i64 ms] 116)).drew := ⟨_,rfl⟩
 rw [← hw1]
 have hF1 : Fr (fun _ => False) tag tag w w1 := by rw [hw1]; exact (((Fr.refl hok).al _).al _).dr
 have e3 : ∀ p : FrW tag w1,p.v.cell? ⟨w.heap.size,3,none⟩ = some (.int .i64 mp) := fun p => p.cell hF1.dom (by rw [hw1]; go_simp)
 have e4 : ∀ p : FrW tag w1,p.v.cell? ⟨w.heap.size,4,none⟩ = some (.int .i64 (j : Int)) := fun p => p.cell hF1.dom (by rw [hw1]; go_simp)
 have e5 : ∀ p : FrW tag w1,p.v.cell? ⟨w.heap.size,5,none⟩ = some (.int .i64 mv) := fun p => p.cell hF1.dom (by rw [hw1]; go_simp)
 have a0 : ∀ p : FrW tag w1,p.v.cell? ⟨w.heap.size + 1,0,none⟩ = some (.int .i64 mp) := fun p => p.cell hF1.dom (by rw [hw1]; go_simp)
 have a1 : ∀ p : FrW tag w1,p.v.cell? ⟨w.heap.size + 1,1,none⟩ = some (.int .i64 ms) := fun p => p.cell hF1.dom (by rw [hw1]; go_simp)
 clear hw1 c2 hcell
 have HP1 := Lib.hid (HP.out.fr hF1 (fun _ _ x => x))
 obtain ⟨qv,hic,hqr⟩ := (HP1.out.items j it HJ.out).cells
 have q0 : ∀ p : FrW tag w1,p.v.cell? ⟨it.ptr,0,none⟩ = some (.bool it.held) := fun p => p.cell hF1.dom (cell_of hic 0)
 have q1 : ∀ p : FrW tag w1,p.v.cell? ⟨it.ptr,1,none⟩ = some (.int .i64 it.lk.prop) := fun p => p.cell hF1.dom (cell_of hic 1)
 have q3 : ∀ p : FrW tag w1,p.v.cell? ⟨it.ptr,3,none⟩ = some qv := fun p => p.cell hF1.dom (cell_of hic 3)
 have q4 : ∀ p : FrW tag w1,p.v.cell? ⟨it.ptr,4,none⟩ = some (.int .i64 it.version) := fun p => p.cell hF1.dom (cell_of hic 4)
 have q5 : ∀ p : FrW tag w1,p.v.cell? ⟨it.ptr,5,none⟩ = some (.map (some it.tm)) := fun p => p.cell hF1.dom (cell_of hic 5)
 have HQ : Hid (∀ p : FrW tag w1,Row tag (k,8,(j : Int)) 116 2 p.v qv it.queue.length (askers it.queue)) := Lib.hid (fun p => hqr.fr (p.fr hF1.dom) (fun x => x))
 have hlk : ∀ p : FrW tag w1,(Instr.lookup 66 (.map (some it.tm)) (.int .i64 mp) false).run Try.prog p.v = .ok (.bool (decide (mp ∈ it.through))) p.v :=
  fun p => look_thr ((HP1.out.items j it HJ.out).map.fr (p.fr hF1.dom) (fun x => x)) mp
 have HF1 := Lib.hid hF1
 clear hF1 hic hqr
 go_wp2_with fail
 cases hthr : decide (mp ∈ it.through)
 ·cases hb : (it.held && it.lk.prop == mp)
  ·cases hwt : it.queue.any (isProp mp)
   ·have HB := Lib.hid hb
    have HW := Lib.hid hwt
    have HTR := Lib.hid hthr
    rw [hthr] at hlk
    clear hb hwt hthr
    refine wp_region_fr (tag := tag) (by kernel_rfl) (by kernel_rfl) ?_
    repeat (go_big_quiet_step (first | (go_at_call 124; exact Calls.fr_same (is_val it.ptr it.held it.lk.prop mp _ _ HB.out (q0 _) (q1 _))) | (go_at_call 125; refine Calls.fr_of (waits_val _ it.ptr mp _ _ HW.out (q3 _) (HQ.out _) (FrW.fr _ HF1.out.dom).dom))))
    refine wpQuiet_nil ?_
    intro wq hw'
    have hwq := FrW.of (HF1.out.dom) hw'
    clear hw'
    have HF2 := Lib.hid (HF1.out.trans hwq)
    have HP2 := Lib.hid (HP1.out.fr hwq (fun _ _ x => x))
    have u3 : wq.cell? ⟨w.heap.size,3,none⟩ = _ := e3 ⟨wq,fun _ => hwq⟩
    have u4 : wq.cell? ⟨w.heap.size,4,none⟩ = _ := e4 ⟨wq,fun _ => hwq⟩
    have u5 : wq.cell? ⟨w.heap.size,5,none⟩ = _ := e5 ⟨wq,fun _ => hwq⟩
    have b0 : wq.cell? ⟨w.heap.size + 1,0,none⟩ = _ := a0 ⟨wq,fun _ => hwq⟩
    have b1 : wq.cell? ⟨w.heap.size + 1,1,none⟩ = _ := a1 ⟨wq,fun _ => hwq⟩
    have r0 : wq.cell? ⟨it.ptr,0,none⟩ = _ := q0 ⟨wq,fun _ => hwq⟩
    have r4 : wq.cell? ⟨it.ptr,4,none⟩ = _ := q4 ⟨wq,fun _ => hwq⟩
    have hok2 := HF2.out.dom
    clear e3 e4 e5 a0 a1 q0 q1 q3 q4 q5 hlk hwq HQ
    by_cases hv : mv = it.version
    ·have hv' : (mv != it.version) = false := by rw [hv]; simp
     have HV := Lib.hid hv
     clear hv
     cases hh : it.held
     ·have hm : askedM P ⟨mk,ms,md,mp,j,mv⟩ j it = grantM P j it j ⟨mp,ms⟩ := by
       have h1 := of_decide_eq_false HTR.out
       simp [askedM,h1,hh,HW.out,HV.out]
      have HM := Lib.hid hm
      rw [hh] at r0
      clear hm hh
      go_wp2_with fail
      go_quiet (fail)
      go_wp2_with (
       go_at_call 130
       refine (grant_ok (j : Int) ⟨mp,ms⟩ (HP2.out.drewN hok2 _) hok2 HJ.out (by omega)).mono ?_
       rintro e w6 ⟨rfl,tag6,hP6,hF6⟩
       have HP6 := Lib.hid hP6
       have HF6 := Lib.hid hF6
       clear hP6 hF6)
      go_end0
      rw [HM.out]
      exact ⟨rfl,tag6,HP6.out,((HF2.out.dN _).mono (fun _ h => h.elim)).trans HF6.out⟩
     ·have hm : askedM P ⟨mk,ms,md,mp,j,mv⟩ j it = P.setItem j { it with queue := it.queue ++ [⟨mp,ms⟩] } := by
       have h1 := of_decide_eq_false HTR.out
       have h2 := HB.out
       rw [hh] at h2
       simp at h2
       simp [askedM,h1,hh,HW.out,HV.out,h2]
      have HM := Lib.hid hm
      rw [hh] at r0
      clear hm hh
      go_wp2_with fail
      go_quiet (fail)
      go_wp2_with fail
      refine start_ (n:=5) (S:=fun w' => w'.cell? ⟨w.heap.size + 1,0,none⟩ = some (.int .i64 mp) ∧ w'.cell? ⟨w.heap.size + 1,1,none⟩ = some (.int .i64 ms)) (ds := [4]) #[f_,f_,f_,f_,f_] (by kernel_rfl) rfl rfl ⟨b0,b1⟩ (fun hHeld => ?_)
      refine pv_ (i:=0) (N:=some 69) (v:=?_) (a':=?_) rfl rfl (by kernel_rfl) (fun _ _ _ h => h) (Or.inl ⟨by rfl,?_⟩) ?_ ?_
      rotate_left;intro w';go_simp;with_reducible rfl;rotate_left;simp only [Act.put,sA_,sB_,sC_,i64_w,i32_w];rfl
      refine pv_ (i:=1) (N:=some 70) (v:=?_) (a':=?_) rfl rfl (by kernel_rfl) (fun _ _ _ h => h) (Or.inl ⟨by rfl,?_⟩) ?_ ?_
      rotate_left;intro w';go_simp;with_reducible rfl;rotate_left;simp only [Act.put,sA_,sB_,sC_,i64_w,i32_w];rfl
      refine pv_ (i:=2) (N:=some 71) (v:=?_) (a':=?_) rfl rfl (by kernel_rfl) (fun _ _ _ h => h) (Or.inl ⟨by rfl,?_⟩) ?_ ?_
      rotate_left;intro w';go_simp;with_reducible rfl;rotate_left;simp only [Act.put,sA_,sB_,sC_,i64_w,i32_w];rfl
      refine tv_ (i:=3) (N:=some 72) (v:=?_) (a':=?_) rfl rfl (by kernel_rfl) (fun _ _ _ h => h) (Or.inl ⟨by rfl,?_⟩) hHeld ?_ ?_
      rotate_left;rintro w' ⟨s0,s1⟩;go_simp;with_reducible rfl;rotate_left;simp only [Act.put,sA_,sB_,sC_,i64_w,i32_w];rfl
      refine last_ (i:=4) (N:=some 73) #[t_,t_,t_,t_,t_] rfl rfl (by kernel_rfl) (by decide) (fun K hK => ?_)
      refine goes_ Try.func129 (by kernel_rfl) rfl #[.pointer (some ⟨it.ptr,0,none⟩),.agg #[.int .i64 mp,.int .i64 ms]] (by rfl) rfl rfl (by simp only [List.map_toArray,List.map_cons,List.map_nil]; rfl) ?_
      with_reducible refine (push_ok ⟨mp,ms⟩ (((HP2.out.drewN hok2 nq).drew (TagOk.drewN hok2 nq)).items j it HJ.out) (TagOk.drew (TagOk.drewN hok2 nq)) hk0 (by omega)).mono ?_
      rintro e w6 ⟨rfl,tag6,hI6,hF6⟩
      refine ⟨_,rfl,?_⟩
      refine hK.out _ _ ?_
      clear hK K
      refine norm_ (a':=?_) ?_ ?_
      rotate_left
      ·show Act.put _ (some 73) _ = _
       simp only [Act.put,sA_,sB_,sC_,i64_w,i32_w]
       rfl
      refine done_ (by kernel_rfl) ?_
      go_end0
      rw [HM.out]
      refine ⟨rfl,tag6,((HP2.out.drewN hok2 nq).drew (TagOk.drewN hok2 nq)).item_upd HJ.out rfl hI6 hF6 (fun t h => by rcases h with h | h; exact .inl h; exact .inr (.inl h)),((HF2.out.dN _).dr.mono (fun _ h => h.elim)).trans (hF6.mono (fun t h => by rcases h with h | h <;> rw [h]))⟩
    ·have hv' : (mv != it.version) = true := by rw [bne_iff_ne]; exact hv
     have hm : askedM P ⟨mk,ms,md,mp,j,mv⟩ j it = refuseM P j it j ⟨mp,ms⟩ := by
      have h1 := of_decide_eq_false HTR.out
      have h2 := HB.out
      simp at h2
      simp only [askedM]
      rw [if_neg (by simp [h1,HW.out]; simpa using h2),if_pos hv]
     have HM := Lib.hid hm
     clear hm hv
     go_wp2_with fail
     go_quiet (fail)
     go_wp2_with (
      go_at_call 128
      refine (refuse_ok (j : Int) ⟨mp,ms⟩ (HP2.out.drewN hok2 _) hok2 HJ.out (by omega)).mono ?_
      rintro e w6 ⟨rfl,tag6,hP6,hF6⟩
      have HP6 := Lib.hid hP6
      have HF6 := Lib.hid hF6
      clear hP6 hF6)
     go_end0
     rw [HM.out]
     exact ⟨rfl,tag6,HP6.out,((HF2.out.dN _).mono (fun _ h => h.elim)).trans (HF6.out.mono (fun t h => by rcases h with h | h | h <;> rw [h]))⟩
   ·have hm : askedM P ⟨mk,ms,md,mp,j,mv⟩ j it = P := by simp [askedM,hwt]
    have HM := Lib.hid hm
    have HB := Lib.hid hb
    have HW := Lib.hid hwt
    rw [hthr] at hlk
    clear hm hb hwt hthr
    refine wp_region_fr (tag := tag) (by kernel_rfl) (by kernel_rfl) ?_
    repeat (go_big_quiet_step (first | (go_at_call 124; exact Calls.fr_same (is_val it.ptr it.held it.lk.prop mp _ _ HB.out (q0 _) (q1 _))) | (go_at_call 125; refine Calls.fr_of (waits_val _ it.ptr mp _ _ HW.out (q3 _) (HQ.out _) (FrW.fr _ HF1.out.dom).dom))))
    refine wpQuiet_nil ?_
    intro wq hw'
    have hwq := FrW.of (HF1.out.dom) hw'
    clear hw'
    go_wp2_with fail
    go_end0
    rw [HM.out]
    exact ⟨rfl,tag,(HP1.out.fr hwq (fun _ _ x => x)),(HF1.out.trans hwq).mono (fun _ h => h.elim)⟩
  ·have hm : askedM P ⟨mk,ms,md,mp,j,mv⟩ j it = P := by
    simp only [Bool.and_eq_true,beq_iff_eq] at hb
    simp [askedM,hb]
   have HM := Lib.hid hm
   have HB := Lib.hid hb
   have HW : Hid (it.queue.any (isProp mp) = it.queue.any (isProp mp)) := Lib.hid rfl
   rw [hthr] at hlk
   clear hm hb hthr
   refine wp_region_fr (tag := tag) (by kernel_rfl) (by kernel_rfl) ?_
   repeat (go_big_quiet_step (first | (go_at_call 124; exact Calls.fr_same (is_val it.ptr it.held it.lk.prop mp _ _ HB.out (q0 _) (q1 _))) | (go_at_call 125; refine Calls.fr_of (waits_val _ it.ptr mp _ _ HW.out (q3 _) (HQ.out _) (FrW.fr _ HF1.out.dom).dom))))
   refine wpQuiet_nil ?_
   intro wq hw'
   have hwq := FrW.of (HF1.out.dom) hw'
   clear hw'
   go_wp2_with fail
   go_end0
   rw [HM.out]
   exact ⟨rfl,tag,(HP1.out.fr hwq (fun _ _ x => x)),(HF1.out.trans hwq).mono (fun _ h => h.elim)⟩
 ·have hm : askedM P ⟨mk,ms,md,mp,j,mv⟩ j it = P := by simp [askedM,of_decide_eq_true hthr]
  have HM := Lib.hid hm
  have HB : Hid ((it.held && it.lk.prop == mp) = (it.held && it.lk.prop == mp)) := Lib.hid rfl
  have HW : Hid (it.queue.any (isProp mp) = it.queue.any (isProp mp)) := Lib.hid rfl
  rw [hthr] at hlk
  clear hm hthr
  refine wp_region_fr (tag := tag) (by kernel_rfl) (by kernel_rfl) ?_
  repeat (go_big_quiet_step (first | (go_at_call 124; exact Calls.fr_same (is_val it.ptr it.held it.lk.prop mp _ _ HB.out (q0 _) (q1 _))) | (go_at_call 125; refine Calls.fr_of (waits_val _ it.ptr mp _ _ HW.out (q3 _) (HQ.out _) (FrW.fr _ HF1.out.dom).dom))))
  refine wpQuiet_nil ?_
  intro wq hw'
  have hwq := FrW.of (HF1.out.dom) hw'
  clear hw'
  go_wp2_with fail
  go_end0
  rw [HM.out]
  exact ⟨rfl,tag,(HP1.out.fr hwq (fun _ _ x => x)),(HF1.out.trans hwq).mono (fun _ h => h.elim)⟩
end Go.Proofs.Ytclkokkppgchfaa
