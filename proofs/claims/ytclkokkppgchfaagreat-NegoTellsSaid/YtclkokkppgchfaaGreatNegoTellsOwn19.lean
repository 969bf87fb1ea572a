/- A part of the proof: texts of this session, joined. -/
import Derived.Test.YtclkokkppgchfaaGreatNegoTellsOwn11
import Derived.Test.YtclkokkppgchfaaGreatNegoTellsOwn18
import Derived.Deep.DeepCutAuto
import Derived.Test.YtclkokkppgchfaaGreatPart10
import Derived.Test.YtclkokkppgchfaaGreatPart6
import Derived.Test.YtclkokkppgchfaaGreatShort
set_option linter.unusedSimpArgs false
set_option linter.unusedVariables false
namespace Go.Proofs.YtclkokkppgchfaaGreat
open Go.RowKit Go.Ng Go.Proofs.YtclkokkppgchfaaGreatW.PrintLast
theorem waiting_any {tag : Nat → Tag} {w : World} {qu : List Asker} {l : List Int} {a0 a1 : Int} {WA TA : Option Addr} {wcap tl tcap : Nat} {t0 : Tag} (hr : ORow tag t0 2 w (.slice WA qu.length wcap) qu.length (askers qu)) (hok : TagOk tag w) (hq : qu.length ≤ 100000) (hl : qu.map (·.prop) = l) :
  Calls Tryz.prog 47 #[.agg #[.int .i64 a0,.int .i64 a1,.slice WA qu.length wcap,.slice TA tl tcap]] w fun e w' => ∃ v,e = .returned v ∧ Rd 1 w' v l.length (ints l) ∧ ∃ tag',Fr (fun _ => False) tag tag' w w' := by
 obtain ⟨M,hM⟩ := tag_max tag w.heap.size
 refine (rwaiting_ok (t := (600,0,M)) (a0 := a0) (a1 := a1) (TA := TA) (tl := tl) (tcap := tcap) hr hok hq (fun b hb e => ?_) (by simp)).mono fun e w' ⟨v,h7,tag',h8,h9⟩ => ⟨v,h7,?_,tag',h9⟩
 ·have := hM b hb; rw [e] at this; simp at this
 ·have := h8.rd (ints_one _)
  rw [hl] at this
  rwa [← hl,List.length_map,hl]
set_option maxRecDepth 100000 in
set_option maxHeartbeats 12800000 in
theorem same_ok {tag : Nat → Tag} {w : World} {p q k : Nat} {N : NetM} {g : G} (L : LiveP tag 100 w p g k) (R : RLive tag 140 w q N g k) (hk : k ≤ 150) :
  Calls Tryz.prog 12 #[.pointer (some ⟨p,0,none⟩),.pointer (some ⟨q,0,none⟩)] w fun e w' => e = .returned (.bool true) ∧ ∃ tag',Fr (fun t => t.1 = 400) tag tag' w w' := by
 have hok := L.ok
 have hfl := L.fl hk
 have hnp := L.np
 have hn64 := L.n64
 have hdec := dec_len L.good
 have HGOOD := Lib.hid L.good
 obtain ⟨pv,fv,cv,hv',yv,dv,hce,_,h4,⟨cvs,h5,h6⟩,h7,⟨yvs,h8,h9⟩,h10⟩ := R.rep.cells
 rw [R.abs.fl] at h4
 rw [R.abs.clen] at h5
 rw [R.abs.ylen] at h8
 rw [R.abs.dec] at h10
 have hcl : ∀ i,i < g.np → ∃ u,cvs[i]? = some u ∧ Row tag (140,6,(i : Int)) 48 2 w u (g.props i).claims.length (claims (g.props i).claims) := fun i hi => h6 i _ (R.abs.claims i hi)
 have hhi : ∀ j,j < g.n → ∃ u,yvs[j]? = some u ∧ Row tag (140,9,(j : Int)) 3 1 w u (g.items j).hist.length (ints (g.items j).hist) := fun j hj => h9 j _ (R.abs.hist j hj)
 obtain ⟨FA,fcap,rfl,q1,q2⟩ := h4.form
 obtain ⟨CA,ccap,rfl,q3,q4⟩ := h5.form
 obtain ⟨YA,ycap,rfl,q5,q6⟩ := h8.form
 obtain ⟨DA,dcap,rfl,q7,q8⟩ := h10.form
 unfold maxLen at q2 q4 q6 q8
 have c1 : w.cell? ⟨q,1,none⟩ = some (.slice FA g.fl.length fcap) := cell_of hce 1
 have c2 : w.cell? ⟨q,2,none⟩ = some (.slice CA g.np ccap) := cell_of hce 2
 have c4 : w.cell? ⟨q,4,none⟩ = some (.slice YA g.n ycap) := cell_of hce 4
 have c5 : w.cell? ⟨q,5,none⟩ = some (.slice DA g.dec.length dcap) := cell_of hce 5
 have hqw := lt_of_heap hce
 have HQ := Lib.hid R.rep.tptr
 have HCE := Lib.hid hce
 have HL := Lib.hid L
 have HR := Lib.hid R
 have H4 := Lib.hid h4
 have H5 := Lib.hid h5
 have H8 := Lib.hid h8
 have H10 := Lib.hid h10
 have HCL := Lib.hid hcl
 have HHI := Lib.hid hhi
 clear hce h4 h5 h6 h7 h8 h9 h10 hcl hhi L R
 go_enter Tryz.func12,Tryz.ntmps12
 go_upto_region 1 with fail
 refine start_ (n:=28) (S:=fun w' => w'.cell? ⟨q,1,none⟩ = some (.slice FA g.fl.length fcap) ∧ w'.cell? ⟨q,2,none⟩ = some (.slice CA g.np ccap) ∧ w'.cell? ⟨q,4,none⟩ = some (.slice YA g.n ycap) ∧ w'.cell? ⟨q,5,none⟩ = some (.slice DA g.dec.length dcap)) (ds := []) #[f_,f_,f_,f_,f_,f_,f_,f_,f_,f_,f_,f_,f_,f_,f_,f_,f_,f_,f_,f_,f_,f_,f_,f_,f_,f_,f_,f_] (by kernel_rfl) rfl rfl ⟨c1,c2,c4,c5⟩ (fun hHeld => ?_)
 refine pure_ (i:=0) (N:=some 21) (v:=?_) (a':=?_) #[t_,f_,f_,f_,f_,f_,f_,f_,f_,f_,f_,f_,f_,f_,f_,f_,f_,f_,f_,f_,f_,f_,f_,f_,f_,f_,f_,f_] rfl rfl (by kernel_rfl) (fun _ _ _ h => h) (Or.inl ⟨by rfl,?_⟩) ?_ ?_
 rotate_left;intro w';go_simp;with_reducible rfl;rotate_left;simp only [Act.put,sA_,sB_,sC_,i64_w,i32_w];rfl
 refine pure_ (i:=2) (N:=some 23) (v:=?_) (a':=?_) #[t_,f_,t_,f_,f_,f_,f_,f_,f_,f_,f_,f_,f_,f_,f_,f_,f_,f_,f_,f_,f_,f_,f_,f_,f_,f_,f_,f_] rfl rfl (by kernel_rfl) (fun _ _ _ h => h) (Or.inl ⟨by rfl,?_⟩) ?_ ?_
 rotate_left;intro w';go_simp;with_reducible rfl;rotate_left;simp only [Act.put,sA_,sB_,sC_,i64_w,i32_w];rfl
 refine pure_ (i:=3) (N:=some 24) (v:=?_) (a':=?_) #[t_,f_,t_,t_,f_,f_,f_,f_,f_,f_,f_,f_,f_,f_,f_,f_,f_,f_,f_,f_,f_,f_,f_,f_,f_,f_,f_,f_] rfl rfl (by kernel_rfl) (fun _ _ _ h => h) (Or.inl ⟨by rfl,?_⟩) ?_ ?_
 rotate_left;intro w';go_simp;with_reducible rfl;rotate_left;simp only [Act.put,sA_,sB_,sC_,i64_w,i32_w];rfl
 refine pure_ (i:=4) (N:=some 25) (v:=?_) (a':=?_) #[t_,f_,t_,t_,t_,f_,f_,f_,f_,f_,f_,f_,f_,f_,f_,f_,f_,f_,f_,f_,f_,f_,f_,f_,f_,f_,f_,f_] rfl rfl (by kernel_rfl) (fun _ _ _ h => h) (Or.inl ⟨by rfl,?_⟩) ?_ ?_
 rotate_left;intro w';go_simp;with_reducible rfl;rotate_left;simp only [Act.put,sA_,sB_,sC_,i64_w,i32_w];rfl
 refine take_ (i:=5) (N:=some 26) (v:=?_) (a':=?_) #[t_,f_,t_,t_,t_,t_,f_,f_,f_,f_,f_,f_,f_,f_,f_,f_,f_,f_,f_,f_,f_,f_,f_,f_,f_,f_,f_,f_] rfl rfl (by kernel_rfl) (fun _ _ _ h => h) (Or.inl ⟨by rfl,?_⟩) hHeld ?_ ?_
 rotate_left;rintro w' ⟨s0,s1,s2,s3⟩;go_simp;with_reducible rfl;rotate_left;simp only [Act.put,sA_,sB_,sC_,i64_w,i32_w];rfl
 refine one_ (i:=1) (N:=some 22) #[t_,t_,t_,t_,t_,t_,f_,f_,f_,f_,f_,f_,f_,f_,f_,f_,f_,f_,f_,f_,f_,f_,f_,f_,f_,f_,f_,f_] rfl rfl (by kernel_rfl) (by decide) (fun K hK => ?_)
 refine goes_ Tryz.func9 (by kernel_rfl) rfl #[.pointer (some ⟨p,0,none⟩)] (by rfl) rfl rfl (by simp only [List.map_toArray,List.map_cons,List.map_nil]; rfl) ?_
 refine (p_flight (300,1,0) (HL.out.frF (Fr.drew hok)) hk).mono ?_
 rintro e w2 ⟨v2,rfl,T2,hr2,hF2⟩
 obtain ⟨A2,cap2,rfl,_,_⟩ := hr2.form
 have HR2 := Lib.hid hr2
 have HF2 : Hid (Fr (fun _ => False) tag T2 w w2) := Lib.hid ((Fr.drew hok).trans hF2)
 have hX := hF2
 clear hr2 hF2
 refine ⟨_,rfl,?_⟩
 refine hK.out _ _ ⟨(hX.cellF hHeld.1),(hX.cellF hHeld.2.1),(hX.cellF hHeld.2.2.1),(hX.cellF hHeld.2.2.2)⟩ (fun hHeld => ?_)
 clear hK K
 refine norm_ (a':=?_) ?_ ?_
 rotate_left
 ·show Act.put _ (some 22) _ = _
  simp only [Act.put,sA_,sB_,sC_,i64_w,i32_w]
  rfl
 refine one_ (i:=6) (N:=some 27) #[t_,t_,t_,t_,t_,t_,t_,f_,f_,f_,f_,f_,f_,f_,f_,f_,f_,f_,f_,f_,f_,f_,f_,f_,f_,f_,f_,f_] rfl rfl (by kernel_rfl) (by decide) (fun K hK => ?_)
 clear hX
 refine goes_ Tryz.func15 (by kernel_rfl) rfl #[.slice A2 g.fl.length cap2,.slice FA g.fl.length fcap] (by rfl) rfl rfl (by simp only [List.map_toArray,List.map_cons,List.map_nil]; rfl) ?_
 refine (samePosts_ok g.fl (HR2.out.rd (posts_one' _)) ((H4.out.fr HF2.out (fun x => x)).rd (posts_one' _)) HF2.out.dom (by omega)).mono ?_
 rintro e w3 ⟨rfl,hF3⟩
 have HF3 : Hid (Fr (fun _ => False) tag T2 w w3) := Lib.hid (HF2.out.trans hF3)
 have hX := hF3
 clear hF3
 refine ⟨_,rfl,?_⟩
 refine hK.out _ _ ⟨(hX.cellF hHeld.1),(hX.cellF hHeld.2.1),(hX.cellF hHeld.2.2.1),(hX.cellF hHeld.2.2.2)⟩ (fun hHeld => ?_)
 clear hK K
 refine norm_ (a':=?_) ?_ ?_
 rotate_left
 ·show Act.put _ (some 27) _ = _
  simp only [Act.put,sA_,sB_,sC_,i64_w,i32_w]
  rfl
 refine pure_ (i:=7) (N:=some 28) (v:=?_) (a':=?_) #[t_,t_,t_,t_,t_,t_,t_,t_,f_,f_,f_,f_,f_,f_,f_,f_,f_,f_,f_,f_,f_,f_,f_,f_,f_,f_,f_,f_] rfl rfl (by kernel_rfl) (fun _ _ _ h => h) (Or.inl ⟨by rfl,?_⟩) ?_ ?_
 rotate_left;intro w';go_simp;with_reducible rfl;rotate_left;simp only [Act.put,sA_,sB_,sC_,i64_w,i32_w];rfl
 refine pure_ (i:=8) (N:=some 29) (v:=?_) (a':=?_) #[t_,t_,t_,t_,t_,t_,t_,t_,t_,f_,f_,f_,f_,f_,f_,f_,f_,f_,f_,f_,f_,f_,f_,f_,f_,f_,f_,f_] rfl rfl (by kernel_rfl) (fun _ _ _ h => h) (Or.inl ⟨by rfl,?_⟩) ?_ ?_
 rotate_left;intro w';go_simp;with_reducible rfl;rotate_left;simp only [Act.put,sA_,sB_,sC_,i64_w,i32_w];rfl
 refine pure_ (i:=9) (N:=some 30) (v:=?_) (a':=?_) #[t_,t_,t_,t_,t_,t_,t_,t_,t_,t_,f_,f_,f_,f_,f_,f_,f_,f_,f_,f_,f_,f_,f_,f_,f_,f_,f_,f_] rfl rfl (by kernel_rfl) (fun _ _ _ h => h) (Or.inl ⟨by rfl,?_⟩) ?_ ?_
 rotate_left;intro w';go_simp;with_reducible rfl;rotate_left;simp only [Act.put,sA_,sB_,sC_,i64_w,i32_w];rfl
 refine pure_ (i:=11) (N:=some 32) (v:=?_) (a':=?_) #[t_,t_,t_,t_,t_,t_,t_,t_,t_,t_,f_,t_,f_,f_,f_,f_,f_,f_,f_,f_,f_,f_,f_,f_,f_,f_,f_,f_] rfl rfl (by kernel_rfl) (fun _ _ _ h => h) (Or.inl ⟨by rfl,?_⟩) ?_ ?_
 rotate_left;intro w';go_simp;with_reducible rfl;rotate_left;simp only [Act.put,sA_,sB_,sC_,i64_w,i32_w];rfl
 refine pure_ (i:=12) (N:=some 33) (v:=?_) (a':=?_) #[t_,t_,t_,t_,t_,t_,t_,t_,t_,t_,f_,t_,t_,f_,f_,f_,f_,f_,f_,f_,f_,f_,f_,f_,f_,f_,f_,f_] rfl rfl (by kernel_rfl) (fun _ _ _ h => h) (Or.inl ⟨by rfl,?_⟩) ?_ ?_
 rotate_left;intro w';go_simp;with_reducible rfl;rotate_left;simp only [Act.put,sA_,sB_,sC_,i64_w,i32_w];rfl
 refine pure_ (i:=13) (N:=some 34) (v:=?_) (a':=?_) #[t_,t_,t_,t_,t_,t_,t_,t_,t_,t_,f_,t_,t_,t_,f_,f_,f_,f_,f_,f_,f_,f_,f_,f_,f_,f_,f_,f_] rfl rfl (by kernel_rfl) (fun _ _ _ h => h) (Or.inl ⟨by rfl,?_⟩) ?_ ?_
 rotate_left;intro w';go_simp;with_reducible rfl;rotate_left;simp only [Act.put,sA_,sB_,sC_,i64_w,i32_w];rfl
 refine take_ (i:=14) (N:=some 35) (v:=?_) (a':=?_) #[t_,t_,t_,t_,t_,t_,t_,t_,t_,t_,f_,t_,t_,t_,t_,f_,f_,f_,f_,f_,f_,f_,f_,f_,f_,f_,f_,f_] rfl rfl (by kernel_rfl) (fun _ _ _ h => h) (Or.inl ⟨by rfl,?_⟩) hHeld ?_ ?_
 rotate_left;rintro w' ⟨s0,s1,s2,s3⟩;go_simp;with_reducible rfl;rotate_left;simp only [Act.put,sA_,sB_,sC_,i64_w,i32_w];rfl
 refine one_ (i:=10) (N:=some 31) #[t_,t_,t_,t_,t_,t_,t_,t_,t_,t_,t_,t_,t_,t_,t_,f_,f_,f_,f_,f_,f_,f_,f_,f_,f_,f_,f_,f_] rfl rfl (by kernel_rfl) (by decide) (fun K hK => ?_)
 clear hX
 refine goes_ Tryz.func41 (by kernel_rfl) rfl #[.pointer (some ⟨p,0,none⟩)] (by rfl) rfl rfl (by simp only [List.map_toArray,List.map_cons,List.map_nil]; rfl) ?_
 refine (p_decided (300,2,0) (HL.out.frF HF3.out) hk).mono ?_
 rintro e w4 ⟨v4,rfl,T4,hr4,hF4⟩
 obtain ⟨A4,cap4,rfl,_,_⟩ := hr4.form
 have HR4 := Lib.hid hr4
 have HF4 : Hid (Fr (fun _ => False) tag T4 w w4) := Lib.hid (HF3.out.trans hF4)
 have hX := hF4
 clear hr4 hF4
 refine ⟨_,rfl,?_⟩
 refine hK.out _ _ ⟨(hX.cellF hHeld.1),(hX.cellF hHeld.2.1),(hX.cellF hHeld.2.2.1),(hX.cellF hHeld.2.2.2)⟩ (fun hHeld => ?_)
 clear hK K
 refine norm_ (a':=?_) ?_ ?_
 rotate_left
 ·show Act.put _ (some 31) _ = _
  simp only [Act.put,sA_,sB_,sC_,i64_w,i32_w]
  rfl
 refine one_ (i:=15) (N:=some 36) #[t_,t_,t_,t_,t_,t_,t_,t_,t_,t_,t_,t_,t_,t_,t_,t_,f_,f_,f_,f_,f_,f_,f_,f_,f_,f_,f_,f_] rfl rfl (by kernel_rfl) (by decide) (fun K hK => ?_)
 clear hX
 refine goes_ Tryz.func20 (by kernel_rfl) rfl #[.slice A4 g.dec.length cap4,.slice DA g.dec.length dcap] (by rfl) rfl rfl (by simp only [List.map_toArray,List.map_cons,List.map_nil]; rfl) ?_
 refine (equalInts_ok g.dec (HR4.out.rd (ints_one _)) ((H10.out.fr HF4.out (fun x => x)).rd (ints_one _)) HF4.out.dom (by omega)).mono ?_
 rintro e w5 ⟨rfl,hF5⟩
 have HF5 : Hid (Fr (fun _ => False) tag T4 w w5) := Lib.hid (HF4.out.trans hF5)
 have hX := hF5
 clear hF5
 refine ⟨_,rfl,?_⟩
 refine hK.out _ _ ⟨(hX.cellF hHeld.1),(hX.cellF hHeld.2.1),(hX.cellF hHeld.2.2.1),(hX.cellF hHeld.2.2.2)⟩ (fun hHeld => ?_)
 clear hK K
 refine norm_ (a':=?_) ?_ ?_
 rotate_left
 ·show Act.put _ (some 36) _ = _
  simp only [Act.put,sA_,sB_,sC_,i64_w,i32_w]
  rfl
 refine pure_ (i:=16) (N:=some 37) (v:=?_) (a':=?_) #[t_,t_,t_,t_,t_,t_,t_,t_,t_,t_,t_,t_,t_,t_,t_,t_,t_,f_,f_,f_,f_,f_,f_,f_,f_,f_,f_,f_] rfl rfl (by kernel_rfl) (fun _ _ _ h => h) (Or.inl ⟨by rfl,?_⟩) ?_ ?_
 rotate_left;intro w';go_simp;with_reducible rfl;rotate_left;simp only [Act.put,sA_,sB_,sC_,i64_w,i32_w];rfl
 refine pure_ (i:=17) (N:=some 38) (v:=?_) (a':=?_) #[t_,t_,t_,t_,t_,t_,t_,t_,t_,t_,t_,t_,t_,t_,t_,t_,t_,t_,f_,f_,f_,f_,f_,f_,f_,f_,f_,f_] rfl rfl (by kernel_rfl) (fun _ _ _ h => h) (Or.inl ⟨by rfl,?_⟩) ?_ ?_
 rotate_left;intro w';go_simp;with_reducible rfl;rotate_left;simp only [Act.put,sA_,sB_,sC_,i64_w,i32_w];rfl
 refine pure_ (i:=18) (N:=some 39) (v:=?_) (a':=?_) #[t_,t_,t_,t_,t_,t_,t_,t_,t_,t_,t_,t_,t_,t_,t_,t_,t_,t_,t_,f_,f_,f_,f_,f_,f_,f_,f_,f_] rfl rfl (by kernel_rfl) (fun _ _ _ h => h) (Or.inl ⟨by rfl,?_⟩) ?_ ?_
 rotate_left;intro w';go_simp;with_reducible rfl;rotate_left;simp only [Act.put,sA_,sB_,sC_,i64_w,i32_w];rfl
 refine pure_ (i:=19) (N:=some 40) (v:=?_) (a':=?_) #[t_,t_,t_,t_,t_,t_,t_,t_,t_,t_,t_,t_,t_,t_,t_,t_,t_,t_,t_,t_,f_,f_,f_,f_,f_,f_,f_,f_] rfl rfl (by kernel_rfl) (fun _ _ _ h => h) (Or.inl ⟨by rfl,?_⟩) ?_ ?_
 rotate_left;intro w';go_simp;with_reducible rfl;rotate_left;simp only [Act.put,sA_,sB_,sC_,i64_w,i32_w];rfl
 refine pure_ (i:=21) (N:=some 42) (v:=?_) (a':=?_) #[t_,t_,t_,t_,t_,t_,t_,t_,t_,t_,t_,t_,t_,t_,t_,t_,t_,t_,t_,t_,f_,t_,f_,f_,f_,f_,f_,f_] rfl rfl (by kernel_rfl) (fun _ _ _ h => h) (Or.inl ⟨by rfl,?_⟩) ?_ ?_
 rotate_left;intro w';go_simp;with_reducible rfl;rotate_left;simp only [Act.put,sA_,sB_,sC_,i64_w,i32_w];rfl
 refine pure_ (i:=22) (N:=some 43) (v:=?_) (a':=?_) #[t_,t_,t_,t_,t_,t_,t_,t_,t_,t_,t_,t_,t_,t_,t_,t_,t_,t_,t_,t_,f_,t_,t_,f_,f_,f_,f_,f_] rfl rfl (by kernel_rfl) (fun _ _ _ h => h) (Or.inl ⟨by rfl,?_⟩) ?_ ?_
 rotate_left;intro w';go_simp;with_reducible rfl;rotate_left;simp only [Act.put,sA_,sB_,sC_,i64_w,i32_w];rfl
 refine pure_ (i:=23) (N:=some 44) (v:=?_) (a':=?_) #[t_,t_,t_,t_,t_,t_,t_,t_,t_,t_,t_,t_,t_,t_,t_,t_,t_,t_,t_,t_,f_,t_,t_,t_,f_,f_,f_,f_] rfl rfl (by kernel_rfl) (fun _ _ _ h => h) (Or.inl ⟨by rfl,?_⟩) ?_ ?_
 rotate_left;intro w';go_simp;with_reducible rfl;rotate_left;simp only [Act.put,sA_,sB_,sC_,i64_w,i32_w];rfl
 refine take_ (i:=24) (N:=some 45) (v:=?_) (a':=?_) #[t_,t_,t_,t_,t_,t_,t_,t_,t_,t_,t_,t_,t_,t_,t_,t_,t_,t_,t_,t_,f_,t_,t_,t_,t_,f_,f_,f_] rfl rfl (by kernel_rfl) (fun _ _ _ h => h) (Or.inl ⟨by rfl,?_⟩) hHeld ?_ ?_
 rotate_left;rintro w' ⟨s0,s1,s2,s3⟩;go_simp;with_reducible rfl;rotate_left;simp only [Act.put,sA_,sB_,sC_,i64_w,i32_w];rfl
 refine one_ (i:=20) (N:=some 41) #[t_,t_,t_,t_,t_,t_,t_,t_,t_,t_,t_,t_,t_,t_,t_,t_,t_,t_,t_,t_,t_,t_,t_,t_,t_,f_,f_,f_] rfl rfl (by kernel_rfl) (by decide) (fun K hK => ?_)
 clear hX
 refine goes_ Tryz.func43 (by kernel_rfl) rfl #[.pointer (some ⟨p,0,none⟩)] (by rfl) rfl rfl (by simp only [List.map_toArray,List.map_cons,List.map_nil]; rfl) ?_
 refine (p_proposals2 400 (HL.out.frF HF5.out) (by omega) hk).mono ?_
 rintro e w6 ⟨v6,vs6,rfl,T6,hr6,hv6,hF6⟩
 obtain ⟨A6,cap6,rfl,_,_⟩ := hr6.form
 have HR6 := Lib.hid hr6
 have HV6 := Lib.hid hv6
 have HF6 : Hid (Fr (fun t => t.1 = 400) tag T6 w w6) := Lib.hid ((HF5.out.mono (fun _ h => h.elim)).trans hF6)
 have hX := hF6
 have hY : ¬ (T4 q).1 = 400 := by rw [HF5.out.same q hqw,HQ.out]; simp
 clear hr6 hF6 hv6
 refine ⟨_,rfl,?_⟩
 refine hK.out _ _ ⟨(hX.cell hHeld.1 hY),(hX.cell hHeld.2.1 hY),(hX.cell hHeld.2.2.1 hY),(hX.cell hHeld.2.2.2 hY)⟩ (fun hHeld => ?_)
 clear hK K
 refine norm_ (a':=?_) ?_ ?_
 rotate_left
 ·show Act.put _ (some 41) _ = _
  simp only [Act.put,sA_,sB_,sC_,i64_w,i32_w]
  rfl
 refine one_ (i:=25) (N:=some 46) #[t_,t_,t_,t_,t_,t_,t_,t_,t_,t_,t_,t_,t_,t_,t_,t_,t_,t_,t_,t_,t_,t_,t_,t_,t_,t_,f_,f_] rfl rfl (by kernel_rfl) (by decide) (fun K hK => ?_)
 clear hX hY
 refine goes_ Tryz.func42 (by kernel_rfl) rfl #[.slice A6 g.np cap6,.slice CA g.np ccap,.func (.func 44) #[] #[]] (by rfl) rfl rfl (by simp only [List.map_toArray,List.map_cons,List.map_nil]; rfl) ?_
 refine (equalFunc_ok g.np (fun i => (g.props i).claims) vs6 cvs HR6.out (H5.out.fr HF6.out (by simp)) (fun i hi => by obtain ⟨u,a,b⟩ := HV6.out i hi; exact ⟨u,a,b.rd (claims_one _)⟩) (fun i hi => by obtain ⟨u,a,b⟩ := HCL.out i hi; exact ⟨u,a,(b.fr HF6.out (by simp)).rd (claims_one _)⟩) (fun i hi => by have := (HGOOD.out.inv.len i); omega) HF6.out.dom).mono ?_
 rintro e w7 ⟨rfl,hF7⟩
 have HF7 : Hid (Fr (fun t => t.1 = 400) tag T6 w w7) := Lib.hid (HF6.out.trans (hF7.mono (fun _ h => h.elim)))
 have hX := hF7
 clear hF7
 refine ⟨_,rfl,?_⟩
 refine hK.out _ _ ⟨(hX.cellF hHeld.1),(hX.cellF hHeld.2.1),(hX.cellF hHeld.2.2.1),(hX.cellF hHeld.2.2.2)⟩ (fun hHeld => ?_)
 clear hK K
 refine norm_ (a':=?_) ?_ ?_
 rotate_left
 ·show Act.put _ (some 46) _ = _
  simp only [Act.put,sA_,sB_,sC_,i64_w,i32_w]
  rfl
 refine pure_ (i:=26) (N:=some 47) (v:=?_) (a':=?_) #[t_,t_,t_,t_,t_,t_,t_,t_,t_,t_,t_,t_,t_,t_,t_,t_,t_,t_,t_,t_,t_,t_,t_,t_,t_,t_,t_,f_] rfl rfl (by kernel_rfl) (fun _ _ _ h => h) (Or.inl ⟨by rfl,?_⟩) ?_ ?_
 rotate_left;intro w';go_simp;with_reducible rfl;rotate_left;simp only [Act.put,sA_,sB_,sC_,i64_w,i32_w];rfl
 refine pure_ (i:=27) (N:=some 48) (v:=?_) (a':=?_) #[t_,t_,t_,t_,t_,t_,t_,t_,t_,t_,t_,t_,t_,t_,t_,t_,t_,t_,t_,t_,t_,t_,t_,t_,t_,t_,t_,t_] rfl rfl (by kernel_rfl) (fun _ _ _ h => h) (Or.inl ⟨by rfl,?_⟩) ?_ ?_
 rotate_left;intro w';go_simp;with_reducible rfl;rotate_left;simp only [Act.put,sA_,sB_,sC_,i64_w,i32_w];rfl
 refine done_ (by kernel_rfl) ?_
 clear hX
 obtain ⟨d1,d2,d4,d5⟩ := hHeld
 have D2 := Lib.hid d2
 have D4 := Lib.hid d4
 clear d1 d2 d4 d5 c1 c2 c4 c5
 have hok7 := HF7.out.dom
 have HL7 := Lib.hid (HL.out.fr HF7.out (fun t h => by omega))
 have HRL7 := Lib.hid (HR.out.fr HF7.out (fun t h => by omega))
 have H87 := Lib.hid (H8.out.fr HF7.out (by simp))
 have HHI7 : Hid (∀ j,j < g.n → ∃ u,yvs[j]? = some u ∧ Row T6 (140,9,(j : Int)) 3 1 w7 u (g.items j).hist.length (ints (g.items j).hist)) := Lib.hid (fun j hj => by obtain ⟨u,a,b⟩ := HHI.out j hj; exact ⟨u,a,b.fr HF7.out (by simp)⟩)
 go_wp2_with fail
 go_loopw [5] (fun i wr => ∃ x : Int,-1 ≤ x ∧ x ≤ (g.n : Int) + 1 ∧ i = .int .i64 x ∧ ∃ Tr,Hid (Fr (fun _ => False) T6 Tr w7 wr)) (fun i _ => ((g.n : Int) + 2 - intOf i).toNat)
 case atStart => exact ⟨-1,by omega,by omega,rfl,T6,Lib.hid (Fr.refl hok7)⟩
 case round =>
  obtain ⟨x,hx1,hx2,rfl,Tr,HFr⟩ := hrel
  have hokr := HFr.out.dom
  have c4 := HFr.out.cellF D4.out
  have HLr := Lib.hid (HL7.out.frF HFr.out)
  have HRr := Lib.hid (HRL7.out.frF HFr.out)
  by_cases hend : (g.n : Int) < x
  ·clear hx1 hx2
   obtain ⟨wo,rfl⟩ : ∃ wo : World,wo = wr := ⟨_,rfl⟩
   have C2 := Lib.hid (HFr.out.cellF D2.out)
   have HX7 := Lib.hid (HF7.out.trans (HFr.out.mono (S' := fun t => t.1 = 400) (fun _ h => h.elim)))
   go_wp2_with fail
   clear hend c4
   go_loopw [16] (fun i wr => ∃ x : Int,-1 ≤ x ∧ x ≤ (g.np : Int) + 1 ∧ i = .int .i64 x ∧ Hid (Fr (fun _ => False) Tr Tr wo wr)) (fun i _ => ((g.np : Int) + 2 - intOf i).toNat)
   case atStart => exact ⟨-1,by omega,by omega,rfl,Lib.hid (Fr.refl hokr)⟩
   case round =>
    obtain ⟨y,hy1,hy2,rfl,HFy⟩ := hrel
    have c2 := HFy.out.cellF C2.out
    have HLy := Lib.hid (HLr.out.frF HFy.out)
    have HRy := Lib.hid (HRr.out.frF HFy.out)
    have hoky := HFy.out.dom
    by_cases hend : (g.np : Int) < y
    ·go_wp2_with fail
     go_ret
     exact ⟨rfl,Tr,HX7.out.trans (HFy.out.mono (fun _ h => h.elim))⟩
    ·have hle : y ≤ (g.np : Int) := by omega
     clear hy2 hend
     by_cases hin : 0 ≤ y ∧ y < (g.np : Int)
     ·obtain ⟨n,rfl⟩ := Int.eq_ofNat_of_zero_le hin.1
      have hn : n < g.np := by omega
      have hn2 : n ≤ g.np := by omega
      clear hin
      obtain ⟨st,hst⟩ : ∃ z,z = (g.props n).st := ⟨_,rfl⟩
      have h1 := p_status HLy.out hn
      have h2 := fun (w2 : World) (hF : Fr (fun _ => False) Tr Tr wr w2) => r_status (HRy.out.frF hF) hn
      rw [← hst] at h1 h2
      have H1 := Lib.hid h1
      have H2 := Lib.hid h2
      have e1 : (st != st) = false := by simp
      clear h1 h2 hst
      go_wp2_with (first
      | (
       go_at_call 8
       refine H1.out.mono ?_
       rintro e w2 ⟨rfl,hF2⟩
       have HF2 := Lib.hid hF2
       clear hF2)
      | (
       go_at_call 48
       refine (H2.out _ HF2.out).mono ?_
       rintro e w3 ⟨rfl,hF3⟩
       have HF3 := Lib.hid (HF2.out.trans hF3)
       clear hF3))
      go_roundw
      case rel => exact ⟨(n : Int) + 1,by omega,by omega,by go_num,Lib.hid (HFy.out.trans HF3.out)⟩
      case measure => simp [intOf]; omega
     ·have HB : Hid (y < 0 ∨ (g.np : Int) ≤ y) := Lib.hid (by omega)
      clear hin
      go_wp2_with (first
      | (
       go_at_call 8
       refine (p_status_bad y HLy.out HB.out).mono ?_
       rintro e w2 ⟨rfl,hw⟩
       replace hw := hw.symm
       subst hw)
      | (
       go_at_call 48
       refine (r_status_bad y HRy.out HB.out).mono ?_
       rintro e w3 ⟨rfl,hw⟩
       replace hw := hw.symm
       subst hw))
      go_roundw
      case rel => exact ⟨y + 1,by omega,by omega,by go_num,HFy⟩
      case measure => simp [intOf]; omega
  ·have hle : x ≤ (g.n : Int) := by omega
   clear hx2
   by_cases hin : 0 ≤ x ∧ x < (g.n : Int)
   ·obtain ⟨j,rfl⟩ := Int.eq_ofNat_of_zero_le hin.1
    have hj : j < g.n := by omega
    have i1 : (0 : Int) ≤ (j : Int) := by omega
    have i2 : (j : Int) < (g.n : Int) := hin.2
    have hle2 : j ≤ g.n := by omega
    have HJ := Lib.hid hj
    clear hend hin hx1
    obtain ⟨u,hu,hur⟩ := HHI7.out j hj
    obtain ⟨yb,hyb,_,_,hyc⟩ := H87.out.cell rfl (j:=j) (List.getElem?_eq_some_iff.1 hu).1
    subst hyb
    have Y0 := Lib.hid (HFr.out.cellF (hyc.trans hu))
    have C4 := Lib.hid c4
    have HUR := Lib.hid (hur.fr HFr.out (fun x => x))
    obtain ⟨UA,ucap,rfl,_,_⟩ := hur.form
    have hq := queue_len HGOOD.out (j : Int)
    have hh := hist_len HGOOD.out (j : Int)
    have HQL : Hid ((g.items j).queue.length ≤ 100000) := Lib.hid (by omega)
    have HHL : Hid ((g.items j).hist.length ≤ 100000) := Lib.hid (by omega)
    clear hu hyc hur hq hh hj
    obtain ⟨ve,hve⟩ : ∃ z,z = (g.items j).ver := ⟨_,rfl⟩
    obtain ⟨ho,hho⟩ : ∃ z,z = holdI (g.items j) := ⟨_,rfl⟩
    have h1 := r_item HRr.out HJ.out
    have h2 := fun (T : Nat → Tag) (w2 : World) (hF : Fr (fun _ => False) Tr T wr w2) => p_version (HLr.out.frF hF) HJ.out
    have h3 := fun (T : Nat → Tag) (w2 : World) (hF : Fr (fun _ => False) Tr T wr w2) => p_holder (HLr.out.frF hF) HJ.out
    rw [← hve,← hho] at h1
    rw [← hve] at h2
    rw [← hho] at h3
    have H1 := Lib.hid h1
    have H2 := Lib.hid h2
    have H3 := Lib.hid h3
    have e1 : (ve != ve) = false := by simp
    have e2 : (ho != ho) = false := by simp
    clear h1 h2 h3 hve hho
    go_upto_region 7 with (
     go_at_call 46
     refine H1.out.mono ?_
     rintro e w2 ⟨qu,t0,WA,wcap,TA,tlen,tcap,rfl,hq,hro,hF2⟩
     have HQ2 := Lib.hid hq
     have HRO2 := Lib.hid hro
     have HF2 := Lib.hid hF2
     clear hq hro hF2)
    clear c4
    obtain ⟨w3,hw3⟩ : ∃ yy,yy = w2.alloc (.cells #[.int .i64 ve,.int .i64 ho,.slice WA qu.length wcap,.slice TA tlen tcap] 91) := ⟨_,rfl⟩
    rw [← hw3]
    obtain ⟨b3,hb3⟩ : ∃ yy,yy = w2.heap.size := ⟨_,rfl⟩
    rw [← hb3]
    have hF3 : Fr (fun _ => False) Tr Tr w2 w3 := by rw [hw3]; exact Fr.alloc HF2.out.dom _
    have HZ3 : Hid (w3.heap[b3]? = some (.cells #[.int .i64 ve,.int .i64 ho,.slice WA qu.length wcap,.slice TA tlen tcap] 91 (0,0))) := Lib.hid (by rw [hw3,hb3]; exact heap_alloc_at _ _)
    have HRO3 := Lib.hid (HRO2.out.fr hF3 (fun x => x))
    have HF3 := Lib.hid (HF2.out.trans hF3)
    clear hw3 hb3 hF3
    go_upto_region 11 with (first
    | (
     go_at_call 23
     refine (H2.out _ _ HF3.out).mono ?_
     rintro e w4 ⟨rfl,hF4⟩
     have HF4 := Lib.hid (HF3.out.trans hF4)
     have HG4 := Lib.hid hF4
     clear hF4)
    | (
     go_at_call 18
     refine (H3.out _ _ HF4.out).mono ?_
     rintro e w5 ⟨rfl,hF5⟩
     have HF5 := Lib.hid (HF4.out.trans hF5)
     have HG5 := Lib.hid (HG4.out.trans hF5)
     clear hF5)
    | (
     go_at_call 19
     refine (p_waits 500 (by decide) (HLr.out.frF HF5.out) HJ.out hk).mono ?_
     rintro e w6 ⟨v6,rfl,T8,ti,hr6,hF6⟩
     obtain ⟨A8,cap8,rfl,_,_⟩ := hr6.form
     have HRW6 := Lib.hid hr6
     have HF6' := Lib.hid (HF5.out.trans hF6)
     have HG6 := Lib.hid (HG5.out.trans hF6)
     clear hF6 hr6)
    | (
     go_at_call 24
     refine (p_history (501,0,0) (HLr.out.frF HF6'.out) HJ.out hk).mono ?_
     rintro e w8 ⟨v8,rfl,T9,hr8,hF8⟩
     obtain ⟨A9,cap9,rfl,_,_⟩ := hr8.form
     have HRH8 := Lib.hid hr8
     have HRW8 := Lib.hid (HRW6.out.fr hF8 (fun x => x))
     have HF8 := Lib.hid (HF6'.out.trans hF8)
     have HG8 := Lib.hid (HG6.out.trans hF8)
     clear hF8 hr8))
    have HZ8 := Lib.hid (HG8.out.heap HZ3.out (fun x => x))
    have HRO8 := Lib.hid (HRO3.out.fr HG8.out (fun x => x))
    have z0 : w8.cell? ⟨b3,0,none⟩ = some (.int .i64 ve) := cell_of HZ8.out 0
    have z1 : w8.cell? ⟨b3,1,none⟩ = some (.int .i64 ho) := cell_of HZ8.out 1
    have z2 : w8.cell? ⟨b3,2,none⟩ = some (.slice WA qu.length wcap) := cell_of HZ8.out 2
    have z3 : w8.cell? ⟨b3,3,none⟩ = some (.slice TA tlen tcap) := cell_of HZ8.out 3
    have HQU : Hid (qu.length ≤ 100000) := Lib.hid (by rw [← List.length_map (f := fun x : Asker => x.prop),HQ2.out]; exact HQL.out)
    have tok1 : True := trivial
    go_wp2_with (first
    | (
     go_at_call 47
     refine (waiting_any HRO8.out HF8.out.dom HQU.out HQ2.out).mono ?_
     rintro e w10 ⟨v10,rfl,hr10,T10,hF10⟩
     obtain ⟨A10,cap10,rfl,_,_⟩ := hr10.slice
     have HR10 := Lib.hid hr10
     have HG10 := Lib.hid hF10
     have HF10 := Lib.hid (HF8.out.trans hF10)
     clear hF10 hr10)
    | (
     go_at_call 20
     have tok2 := tok1
     refine (equalInts_ok (g.items j).queue ((HRW8.out.rd (ints_one _)).frF HG10.out) HR10.out HF10.out.dom (by have := HQL.out; omega)).mono ?_
     clear tok1 tok2
     rintro e w11 ⟨rfl,hF11⟩
     have HG11 := Lib.hid (HG10.out.trans hF11)
     have HF11 := Lib.hid (HF10.out.trans hF11)
     have c4 := HF11.out.cellF C4.out
     have y0 := HF11.out.cellF Y0.out
     clear hF11)
    | (
     go_at_call 20
     refine (equalInts_ok (g.items j).hist ((HRH8.out.rd (ints_one _)).frF HG11.out) ((HUR.out.rd (ints_one _)).frF HF11.out) HF11.out.dom (by have := HHL.out; omega)).mono ?_
     rintro e w12 ⟨rfl,hF12⟩
     have HF12 := Lib.hid (HF11.out.trans hF12)
     clear hF12))
    go_roundw
    case rel => exact ⟨(j : Int) + 1,by omega,by omega,by go_num,_,Lib.hid (HFr.out.trans HF12.out)⟩
    case measure => simp [intOf]; omega
   ·have HB : Hid (x < 0 ∨ (g.n : Int) ≤ x) := Lib.hid (by omega)
    clear hin hend
    go_upto_region 7 with (
     go_at_call 46
     refine (r_item_bad x HRr.out HB.out).mono ?_
     rintro e w2 ⟨rfl,hF2⟩
     have HF2 := Lib.hid hF2
     clear hF2)
    obtain ⟨w3,hw3⟩ : ∃ yy,yy = w2.alloc (.cells #[.int .i64 0,.int .i64 0,.slice none 0 0,.slice none 0 0] 91) := ⟨_,rfl⟩
    rw [← hw3]
    obtain ⟨b3,hb3⟩ : ∃ yy,yy = w2.heap.size := ⟨_,rfl⟩
    rw [← hb3]
    have HF3 : Hid (Fr (fun _ => False) Tr Tr wr w3) := Lib.hid (by rw [hw3]; exact HF2.out.al _)
    have HL3 := Lib.hid (HLr.out.frF HF3.out)
    clear hw3 hb3 c4
    go_wp2_with (first
    | (
     go_at_call 23
     refine (p_version_bad x HL3.out HB.out).mono ?_
     rintro e w4 ⟨rfl,hw⟩
     replace hw := hw.symm
     subst hw)
    | (
     go_at_call 18
     refine (p_holder_bad x HL3.out HB.out).mono ?_
     rintro e w4 ⟨rfl,hw⟩
     replace hw := hw.symm
     subst hw)
    | (
     go_at_call 19
     refine (p_waits_bad x HL3.out HB.out).mono ?_
     rintro e w4 ⟨rfl,hw⟩
     replace hw := hw.symm
     subst hw)
    | (
     go_at_call 24
     refine (p_history_bad x HL3.out HB.out).mono ?_
     rintro e w4 ⟨rfl,hw⟩
     replace hw := hw.symm
     subst hw))
    go_roundw
    case rel => exact ⟨x + 1,by omega,by omega,by go_num,Tr,Lib.hid (HFr.out.trans HF3.out)⟩
    case measure => simp [intOf]; omega
section
variable {tag : Nat → Tag} {w : World} {B q : Nat} {N : NetM} {g : G} {K : Nat}
end
def begunP (i : Nat) (l : List Int) : PlaceM := ⟨0,0,i,l,l.map (fun s => if s = (i : Int) then some ⟨0,0,false,⟨0,0⟩,[],0,[]⟩ else none),[],[],[]⟩
theorem begunP_begun (i : Nat) (l : List Int) : Begun (begunP i l) i l l := by
 refine ⟨rfl,rfl,by simp [begunP],fun j it hj => ?_,fun j hj => ?_,rfl,rfl,rfl⟩
 ·simp only [begunP,List.getElem?_map] at hj
  rcases h : l[j]? with _ | s
  ·simp [h] at hj
  ·simp only [h,Option.map_some,Option.some.injEq] at hj
   split at hj
   ·rename_i e
    injection hj with hj
    subst hj
    exact ⟨by rw [e],rfl,rfl,rfl,rfl,rfl⟩
   ·cases hj
 ·exact ⟨⟨0,0,false,⟨0,0⟩,[],0,[]⟩,by simp [begunP,hj]⟩
theorem refItems_eq : ∀ n : Nat,(List.replicate n (⟨0,-1,.slice none 0 0,.slice none 0 0⟩ : RIt)).flatMap RIt.cells = refItems n
 | 0 => rfl
 | n + 1 => by
  rw [List.replicate_succ',List.flatMap_append,refItems_eq n]
  rfl
theorem RPlace0.rep {tag : Nat → Tag} {w : World} {k p i : Nat} {l : List Int} (h : RPlace0 tag k w p i l l.length) (hk : k ≠ 0) : RPRep tag k w p (begunP i l) := by
 obtain ⟨av,iv,h1,h2,h3⟩ := h.cells
 rw [List.take_length] at h2
 refine ⟨hk,h.ptr,av,iv,.slice none 0 0,h1,h2,⟨List.replicate l.length ⟨0,-1,.slice none 0 0,.slice none 0 0⟩,by simp [begunP],by rw [List.length_replicate,refItems_eq]; exact h3,fun j o x ho hx => ?_⟩,[],rfl,Row.nil _ _ _ _ _,fun i n y x a b => by simp at b⟩
 have hx' : x = ⟨0,-1,.slice none 0 0,.slice none 0 0⟩ := by
  rw [List.getElem?_replicate] at hx
  split at hx
  ·injection hx with hx; exact hx.symm
  ·cases hx
 subst hx'
 simp only [begunP,List.getElem?_map] at ho
 rcases hl : l[j]? with _ | s
 ·simp [hl] at ho
 ·simp only [hl,Option.map_some,Option.some.injEq] at ho
  split at ho
  ·subst ho
   exact ⟨rfl,rfl,ORow.nil _ _ _ _,Row.nil _ _ _ _ _⟩
  ·subst ho
   rfl
theorem rnew_live {tag : Nat → Tag} {w : World} {v : Value} (B places : Nat) (l : List Int) (hr : Rd 1 w v l.length (ints l)) (he : Ext tag w v) (hok : TagOk tag w) (hB : B ≠ 0) (hp1 : 1 ≤ places) (hp2 : places ≤ 32) (hl : rightB l places = true) :
  Calls Tryz.prog 7 #[.int .i64 (places : Int),v] w fun e w' => ∃ q : Nat,e = .returned (.tuple #[.pointer (some ⟨q,0,none⟩),.int .i64 0]) ∧ ∃ tag' N,RLive tag' B w' q N (beginG places l) 0 ∧ Fr (fun t => B ≤ t.1 ∧ t.1 ≤ B + 32) tag tag' w w' := by
 refine (rnew_ok B places l hr he hok hB hp1 hp2 hl).mono ?_
 rintro e w' ⟨q,rfl,tag',Ps,yv,ys,hPs,hN,hy,hys,hF⟩
 obtain ⟨pv,h1,h2⟩ := hN.cells
 refine ⟨q,rfl,tag',⟨0,(List.range places).map (fun i => begunP i l),l,[],[],[],List.replicate l.length [],[]⟩,⟨⟨hB,hN.ptr,pv,_,_,_,_,_,h1,⟨Ps,by simp [hPs],by have h2' := h2; rw [hPs] at h2'; show Row _ _ _ _ _ _ ((List.range places).map _).length _; rw [List.length_map,List.length_range]; exact h2',fun i p P a b => ?_⟩,Row.nil _ _ _ _ _,⟨[],Row.nil _ _ _ _ _,fun i l hl => by simp at hl⟩,Row.nil _ _ _ _ _,⟨ys,by simpa using hy,fun i l' hl' => ?_⟩,Row.nil _ _ _ _ _⟩,?_,beginG_good places l,Nat.le_refl _,by rw [beginG_wt]; omega,hF.dom,fun i P hi => ?_,fun j => by simp [beginG]⟩,hF⟩
 ·have b' : ((List.range places).map (fun i => begunP i l))[i]? = some P := b
  have hi : i < places := by have := (List.getElem?_eq_some_iff.1 a).1; omega
  simp [hi] at b'
  subst b'
  exact (hN.places i p a).rep (by omega)
 ·have hl2 : (List.replicate l.length ([] : List Int))[i]? = some l' := hl'
  rw [List.getElem?_replicate] at hl2
  split at hl2
  ·rename_i hi
   injection hl2 with hl2
   subst hl2
   exact ⟨_,hys i hi,Row.nil _ _ _ _ _⟩
  ·cases hl2
 ·refine begin_abs ⟨hp1,hp2⟩ hl ⟨0,_,rfl,by simp,fun i P hi => ?_⟩
  have hi' : i < places := by have := (List.getElem?_eq_some_iff.1 hi).1; simpa using this
  simp [hi'] at hi
  subst hi
  exact begunP_begun i l
 ·have hi2 : ((List.range places).map (fun i => begunP i l))[i]? = some P := hi
  have hi' : i < places := by have := (List.getElem?_eq_some_iff.1 hi2).1; simpa using this
  simp [hi'] at hi2
  subst hi2
  simp [keysOf,begunP]
end Go.Proofs.YtclkokkppgchfaaGreat
namespace Go.Ng
open Go Go.RowKit
section
variable {P : Program} {ops : Array Oper} {Q : Exit → Act → World → Prop} {tag : Nat → Tag} {t : Tag} {E sz : Nat} {w : World} {v : Value} {n : Nat} {ks : List Value}
end
end Go.Ng
namespace Go.Proofs.YtclkokkppgchfaaGreat
open Go.RowKit Go.Ng Go.Proofs.YtclkokkppgchfaaGreatW.PrintLast
section
variable {tag : Nat → Tag} {w : World} {B k : Nat} {g : G}
theorem live_deliver2 {N : NetM} {i : Nat} {m : Post} (L : Live tag B w N g k) (hk : k ≤ 150) (hm : g.fl[i]? = some m) :
  Calls Tryz.prog 17 #[.pointer (some ⟨N.ptr,0,none⟩),.int .i64 (i : Int)] w fun e w' => ∃ cv,e = .returned (.tuple #[cv,.int .i64 0]) ∧ ∃ (tag' : Nat → Tag) (t : Tag),LiveP tag' B w' N.ptr (g.deliverG i m) k ∧ Row tag' t 61 3 w' cv (g.takeG m).2.2.length (cames (g.takeG m).2.2) ∧ (B < t.1 ∧ t.1 ≤ B + 32) ∧ Fr (fun t => B ≤ t.1 ∧ t.1 ≤ B + 32) tag tag' w w' := by
 have hS := L.small (by omega)
 have hmem := List.mem_of_getElem? hm
 have hi : N.flight[i]? = some m := by rw [L.abs.fl]; exact hm
 have R := L.good.route m hmem
 obtain ⟨k1,k2,c,_,hc⟩ := L.good.inv.mcl _ _ _ (has_mem hmem)
 obtain ⟨p0,pn,j0,jn⟩ := L.good.inv.rng _ _ _ hc
 have hdst : 0 ≤ m.dst ∧ m.dst < g.places := by
  by_cases e : m.kind = 2 ∨ m.kind = 3
  ·rw [(R.dst.1 e).2]; exact L.abs.homer _ p0 pn
  ·rw [(R.dst.2 (fun x => e (.inl x)) (fun x => e (.inr x))).2]; exact L.abs.siter _ j0 jn
 obtain ⟨p,hp⟩ := Int.eq_ofNat_of_zero_le hdst.1
 have hpl : p < N.places.length := by rw [L.abs.plen]; omega
 have hP : N.places[p]? = some N.places[p] := List.getElem?_eq_getElem hpl
 obtain ⟨ht,hq⟩ := L.abs.tame L.good hS hP
 obtain ⟨hv,hpr,hit⟩ := L.abs.valid L.good hS hP hmem hp
 obtain ⟨hab,hcame⟩ := L.abs.deliver L.good hi hp hP
 have hA := L.abs.place p _ hP
 have T := take_abs hA L.good hmem hp
 have hol := takeG_out_len L.good m
 have hnp := L.np
 have hcl : (takeM N.places[p] m).came.length ≤ 1 := by
  rw [hcame]
  have hC := takeG_cames (g := g) m
  generalize (g.takeG m).1 = g1 at hC
  generalize (g.takeG m).2.2 = cs at hC
  cases hC <;> simp
 have hcit : ∀ c ∈ (takeM N.places[p] m).came,c.kind = 3 → ∃ j : Nat,c.item = j ∧ j < N.history.length := by
  rw [hcame]
  have hC := takeG_cames (g := g) m
  generalize (g.takeG m).1 = g1 at hC
  generalize (g.takeG m).2.2 = cs at hC
  cases hC with
  | none => simp
  | done => simp
  | not => simp
  | moved =>
   intro c hc hk3
   rw [List.mem_singleton.1 hc]
   obtain ⟨j,hj⟩ := Int.eq_ofNat_of_zero_le j0
   exact ⟨j,hj,by rw [L.abs.ylen]; omega⟩
 refine (deliver_ok L.rep L.ok hi hp hP hv ht hq hpr hit (by have := L.fl_len (by omega); omega) (by rw [T.out]; omega) (by omega) hcit (by rw [L.abs.dec]; have := dec_len L.good; omega) (fun j => by have := getD_hist L.abs L.good j; omega)).mono ?_
 rintro e w' ⟨cv,rfl,tag',hN,hcv,hF⟩
 obtain ⟨s1,s2,s3,s4,s5,s6,s7⟩ := takeG_same (g := g) m
 have hpb : p < 32 := by have := L.abs.p32; rw [L.abs.plen] at hpl; omega
 refine ⟨cv,rfl,tag',(B + 1 + p,6,0),⟨_,?_,⟨hN,hab,L.good.deliver hm,by show (g.takeG m).1.np ≤ _; rw [s4]; omega,?_,hF.dom⟩⟩,by rw [hcame] at hcv; exact hcv,⟨by show B < B + 1 + p; omega,by show B + 1 + p ≤ B + 32; omega⟩,hF.mono (fun t h => by omega)⟩
 ·exact (takeN_same _ _ _).1
 ·have := wt_deliver W1_ok L.good hm; have := L.wt; omega
set_option maxRecDepth 100000 in
set_option maxHeartbeats 1600000 in
theorem p_do2 {p : Nat} {i : Nat} {m : Post} {v : Value} {oc : List Clm} (L : LiveP tag B w p g k) (hk : k ≤ 150) (hm : g.fl[i]? = some m) (hr : RdX tag w v oc) :
  Calls Tryz.prog 10 #[.pointer (some ⟨p,0,none⟩),.agg #[.int .i64 2,.int .i64 (i : Int),v]] w fun e w' => ∃ cv,e = .returned (.tuple #[.int .i64 0,cv,.int .i64 0]) ∧ ∃ (tag' : Nat → Tag) (t : Tag),LiveP tag' B w' p (g.deliverG i m) k ∧ Row tag' t 61 3 w' cv (g.takeG m).2.2.length (cames (g.takeG m).2.2) ∧ (B < t.1 ∧ t.1 ≤ B + 32) ∧ Fr (fun t => B ≤ t.1 ∧ t.1 ≤ B + 32) tag tag' w w' := by
 obtain ⟨VA,vcap,rfl,q2⟩ := hr.slice
 have hF : Fr (fun _ => False) tag tag w (w.alloc (.cells #[.int .i64 2,.int .i64 (i : Int),.slice VA oc.length vcap] 39)) := Fr.alloc L.ok _
 obtain ⟨N,rfl,LL⟩ := L.net
 have HC := Lib.hid (live_deliver2 (LL.frF hF) hk hm)
 have HF := Lib.hid hF
 clear L hr hF LL hm
 go_enter Tryz.func10,Tryz.ntmps10
 go_wp2_with (
  go_at_call 17
  refine HC.out.mono ?_
  rintro e w' ⟨cv,rfl,T,t,h1,h2,h3,h4⟩
  have H1 := Lib.hid h1
  have H2 := Lib.hid h2
  have H3 := Lib.hid h3
  have H4 := Lib.hid h4
  clear h1 h2 h3 h4)
 go_ret3
 exact ⟨cv,rfl,T,t,H1.out,H2.out,H3.out,(HF.out.mono (fun _ h => h.elim)).trans H4.out⟩
end
theorem nnew_bad {tag : Nat → Tag} {w : World} {v : Value} (places : Int) (l : List Int) (hr : Rd 1 w v l.length (ints l)) (hok : TagOk tag w) (hl : places < 1 ∨ 32 < places ∨ rightB l places = false) :
  Calls Tryz.prog 6 #[.int .i64 places,v] w fun e w' => e = .returned (.tuple #[.pointer none,.int .i64 271]) ∧ Fr (fun _ => False) tag tag w w' := by
 have HC := Lib.hid (right_ok l places w hr hok)
 by_cases h1 : places < 1
 ·have i1 : decide (places < 1) = true := decide_eq_true h1
  clear hl h1 hr
  go_enter Tryz.func6,Tryz.ntmps6
  go_wp2_with fail
  go_ret2
  exact ⟨rfl,Fr.refl hok⟩
 ·have i1 : decide (places < 1) = false := decide_eq_false h1
  by_cases h2 : 32 < places
  ·have i2 : decide (32 < places) = true := decide_eq_true h2
   clear hl h1 h2 hr
   go_enter Tryz.func6,Tryz.ntmps6
   go_wp2_with fail
   go_ret2
   exact ⟨rfl,Fr.refl hok⟩
  ·have i2 : decide (32 < places) = false := decide_eq_false h2
   have HL : Hid (rightB l places = false) := Lib.hid (by
    rcases hl with h | h | h
    ·exact absurd h h1
    ·exact absurd h h2
    ·exact h)
   clear hl h1 h2 hr
   go_enter Tryz.func6,Tryz.ntmps6
   go_wp2_with (
    go_at_call 28
    refine HC.out.mono ?_
    rw [HL.out]
    rintro e w1 ⟨rfl,hw⟩
    have HW := Lib.hid hw
    clear hw)
   go_ret2
   exact ⟨rfl,HW.out⟩
def errN (k : Int) : Int := if k = 0 ∨ k = 1 ∨ k = 2 ∨ k = 3 then 271 else 0
def CameV (B : Nat) (tag : Nat → Tag) (w : World) (v : Value) (l : List Came) : Prop := (∃ t : Tag,(B < t.1 ∧ t.1 ≤ B + 32) ∧ Row tag t 61 3 w v l.length (cames l)) ∨ (l = [] ∧ Rd 3 w v 0 [])
theorem doG_came {g : G} {o : OpM} (h : ¬ (o.kind = 2 ∧ 0 ≤ o.n ∧ o.n < g.fl.length)) : (doG g o).2.2.1 = [] := by
 unfold doG
 split
 ·unfold doP
  split
  ·rfl
  ·split
   ·rfl
   ·split <;> rfl
 ·split
  ·unfold doD
   split
   ·rfl
   ·split <;> rfl
  ·split
   ·rename_i h2
    unfold doL
    rw [if_pos (by
     by_cases e : o.n < 0
     ·exact .inl e
     ·right
      by_cases e2 : o.n < g.fl.length
      ·exact absurd ⟨h2,by omega,e2⟩ h
      ·omega)]
   ·split
    ·unfold doB
     split
     ·rfl
     ·split <;> rfl
    ·rfl
theorem p_doR {tag : Nat → Tag} {w : World} {B p k : Nat} {g : G} (o : OpM) {v : Value} (L : LiveP tag B w p g k) (hk : k < 150) (hr : RdX tag w v o.claims) :
  Calls Tryz.prog 10 #[.pointer (some ⟨p,0,none⟩),.agg #[.int .i64 o.kind,.int .i64 o.n,v]] w fun e w' => ∃ cv,e = .returned (.tuple #[.int .i64 (doG g o).2.1,cv,.int .i64 (doG g o).2.2.2]) ∧ ∃ tag' : Nat → Tag,LiveP tag' B w' p (doG g o).1 (k + 1) ∧ CameV B tag' w' cv (doG g o).2.2.1 ∧ (∃ A cap,cv = .slice A (doG g o).2.2.1.length cap) ∧ Fr (fun t => B ≤ t.1 ∧ t.1 ≤ B + 32) tag tag' w w' := by
 by_cases h : o.kind = 2 ∧ 0 ≤ o.n ∧ o.n < g.fl.length
 ·obtain ⟨ok,on,oc⟩ := o
  simp only at h hr
  obtain ⟨rfl,h0,h1⟩ := h
  obtain ⟨i,rfl⟩ := Int.eq_ofNat_of_zero_le h0
  have hi : i < g.fl.length := by omega
  obtain ⟨m,hm,hd⟩ := doL_some hi
  have he : doG g ⟨2,(i : Int),oc⟩ = (g.deliverG i m,0,(g.takeG m).2.2,0) := hd
  rw [he]
  refine (p_do2 L (by omega) hm hr).mono ?_
  rintro e w' ⟨cv,rfl,tag',t,h1,h2,h3,h4⟩
  obtain ⟨A,cap,hcv,_,_⟩ := h2.form
  exact ⟨cv,rfl,tag',h1.more (Nat.le_succ k),.inl ⟨t,h3,h2⟩,⟨A,cap,hcv⟩,h4⟩
 ·have hc := doG_came h
  refine (p_do o L hk hr).mono ?_
  rintro e w' ⟨cv,rfl,⟨tag',h1,h2,h3⟩⟩
  obtain ⟨A,cap,hcv,_,_⟩ := h2.slice
  rw [hc] at h2 ⊢
  exact ⟨cv,rfl,tag',h1,.inr ⟨rfl,h2⟩,⟨A,cap,by rw [hc] at hcv; exact hcv⟩,h3⟩
theorem runG_next {g : G} {l : List OpM} {n : Nat} {o : OpM} (h : l[n]? = some o) : runG g (l.take (n + 1)) = (doG (runG g (l.take n)) o).1 := by
 rw [List.take_add_one,h]
 exact runG_snoc _ _ _
set_option maxRecDepth 100000 in
set_option maxHeartbeats 12800000 in
theorem negoTells_ok {tag : Nat → Tag} {w : World} {vi vo : Value} {places : Int} {items : List Int} {l : List OpM} (hi : Rd 1 w vi items.length (ints items)) (hie : Ext tag w vi) (ho : OpsRd tag w vo l) (hok : TagOk tag w) :
  Calls Tryz.prog 3 #[.int .i64 places,vi,vo] w fun e w' => e = .returned (.bool true) ∧ ∃ tag',Fr (fun t => 1 ≤ t.1) tag tag' w w' := by
 have HS := fun {tag : Nat → Tag} {w : World} => @sane_ok tag w 1
 obtain ⟨IA,icap,rfl,q1,q2⟩ := hi.slice
 obtain ⟨LA,lcap,rfl,q3,q4⟩ := ho.slice
 unfold maxLen at q2 q4
 have HI := Lib.hid hi
 have HIE := Lib.hid hie
 have HO := Lib.hid ho
 clear hi hie ho
 go_enter Tryz.func3,Tryz.ntmps3
 go_upto_region 3 with (
   go_at_call 4
   refine (HS hok (by omega)).mono ?_
   rintro e w1 ⟨rfl,T1,hF1,hok1⟩
   have HI1 := Lib.hid (HI.out.ext HIE.out hF1 (fun t h => by omega))
   have HIE1 := Lib.hid (HIE.out.fr hF1)
   have HO1 := Lib.hid (HO.out.fr hF1 (fun t h => by omega))
   have HF1 := Lib.hid (hF1.mono (S' := fun t => 1 ≤ t.1) (fun t h => by omega))
   clear hF1)
 have hfw := few_ok HI1.out HO1.out HF1.out.dom
 obtain ⟨b,hb⟩ : ∃ b,b = fewB items.length l := ⟨_,rfl⟩
 rw [← hb] at hfw
 have HFW := Lib.hid hfw
 have HB := Lib.hid hb
 clear hfw hb
 cases b
 case false =>
  go_wp2_with (
   go_at_call 5
   refine HFW.out.mono ?_
   rintro e w3 ⟨rfl,hF3⟩
   have HF3 := Lib.hid hF3
   clear hF3)
  go_ret
  exact ⟨rfl,T1,HF1.out.trans (HF3.out.mono (fun _ h => h.elim))⟩
 case true =>
 have hb3 := HB.out.symm
 have hl80 : l.length ≤ 80 := by
  simp only [fewB,Bool.and_eq_true,decide_eq_true_eq] at hb3
  exact hb3.1.1
 clear hb3
 go_upto_region 5 with (
   go_at_call 5
   refine HFW.out.mono ?_
   rintro e wx ⟨rfl,hFx⟩
   have HFx := Lib.hid hFx
   clear hFx)
 have HIc := Lib.hid (HI1.out.frF HFx.out)
 have HIEc := Lib.hid (HIE1.out.fr HFx.out)
 have HOc := Lib.hid (HO1.out.fr HFx.out (fun _ h => h.elim))
 have HFc := Lib.hid (HF1.out.trans (HFx.out.mono (S' := fun t => 1 ≤ t.1) (fun _ h => h.elim)))
 by_cases hv : places < 1 ∨ 32 < places ∨ rightB items places = false
 ·have HV := Lib.hid hv
  clear hv
  go_wp2_with (first
  | (
   go_at_call 6
   refine (nnew_bad places items HIc.out HFc.out.dom HV.out).mono ?_
   rintro e w2 ⟨rfl,hF2⟩
   have HF2 := Lib.hid (HFc.out.trans (hF2.mono (fun _ h => h.elim)))
   have HI2 := Lib.hid (HIc.out.frF hF2)
   clear hF2)
  | (
   go_at_call 7
   refine (rnew_bad places items HI2.out HV.out).mono ?_
   rintro e w' ⟨rfl,hw⟩
   replace hw := hw.symm
   subst hw)
  | (
   go_at_call 8
   refine (nil8 _ _).mono ?_
   rintro e w5 ⟨rfl,hw⟩
   replace hw := hw.symm
   subst hw)
  | (
   go_at_call 9
   refine (nil9 _).mono ?_
   rintro e w5 ⟨rfl,hw⟩
   replace hw := hw.symm
   subst hw))
  go_ret
  exact ⟨rfl,T1,HF2.out⟩
 ·obtain ⟨hp1,hp2,hright⟩ : 1 ≤ places ∧ places ≤ 32 ∧ rightB items places = true := by
   simp only [not_or,Bool.not_eq_false,Int.not_lt] at hv
   exact hv
  clear hv
  obtain ⟨pl,rfl⟩ : ∃ pl : Nat,places = pl := ⟨places.toNat,by omega⟩
  have HRG := Lib.hid hright
  have hpl1 : 1 ≤ pl := by omega
  have hpl2 : pl ≤ 32 := by omega
  clear hright hp1 hp2
  go_upto_region 7 with (first
  | (
   go_at_call 6
   refine (p_new 100 pl items HIc.out HIEc.out HFc.out.dom (by omega) hpl1 hpl2 HRG.out).mono ?_
   rintro e w3 ⟨p,rfl,T3,hL3,hF3⟩
   have HL3 := Lib.hid hL3
   have HI3 := Lib.hid (HIc.out.ext HIEc.out hF3 (fun t h => by omega))
   have HIE3 := Lib.hid (HIEc.out.fr hF3)
   have HO3 := Lib.hid (HOc.out.fr hF3 (fun t h => by omega))
   have HF3 := Lib.hid (HFc.out.trans (hF3.mono (fun t h => by omega)))
   clear hF3 hL3)
  | (
   go_at_call 7
   refine (rnew_live 140 pl items HI3.out HIE3.out HF3.out.dom (by omega) hpl1 hpl2 HRG.out).mono ?_
   rintro e w4 ⟨q,rfl,T4,N4,hR4,hF4⟩
   have HR4 := Lib.hid hR4
   have HL4 := Lib.hid (HL3.out.fr hF4 (fun t h => by omega))
   have HO4 := Lib.hid (HO3.out.fr hF4 (fun t h => by omega))
   have HF4 := Lib.hid (HF3.out.trans (hF4.mono (fun t h => by omega)))
   clear hF4 hR4))
  have hok4 := HF4.out.dom
  go_wp2_with fail
  go_loopw [68] (fun i wr => ∃ n : Nat,n ≤ l.length ∧ i = .int .i64 n ∧ ∃ (Tr : Nat → Tag) (N : NetM),Hid (LiveP Tr 100 wr p (runG (beginG pl items) (l.take n)) n) ∧ Hid (RLive Tr 140 wr q N (runG (beginG pl items) (l.take n)) n) ∧ Hid (Fr (fun t => (100 ≤ t.1 ∧ t.1 ≤ 174) ∨ t.1 = 400) T4 Tr w4 wr)) (fun i _ => l.length - (intOf i).toNat)
  case atStart => exact ⟨0,Nat.zero_le _,rfl,T4,N4,HL4,HR4,Lib.hid (Fr.refl hok4)⟩
  case round =>
   obtain ⟨n,hn,rfl,Tr,N,HLr,HRr,HFr⟩ := hrel
   have hokr := HFr.out.dom
   obtain ⟨gn,hgn⟩ : ∃ y,y = runG (beginG pl items) (l.take n) := ⟨_,rfl⟩
   rw [← hgn] at HLr HRr
   by_cases hlt : n < l.length
   ·obtain ⟨⟨ok,on,cs⟩,hx⟩ : ∃ o,l[n]? = some o := ⟨_,List.getElem?_eq_getElem hlt⟩
    have HNX := Lib.hid (runG_next (g := beginG pl items) hx)
    rw [← hgn] at HNX
    obtain ⟨ob,ooff,ocap',u,hov,o0,o1,o2,hxr⟩ := (HO4.out.fr HFr.out (fun t h => by omega)).get hx
    injection hov with hov _ hov2
    subst hov hov2
    simp only at o0 o1 o2 hxr
    obtain ⟨UA,ucap,rfl,u2⟩ := hxr.slice
    unfold maxLen at u2
    have HXO := Lib.hid hxr
    have i5 : (0 : Int) ≤ (n : Int) := by omega
    have i6 : (n : Int) < (l.length : Int) := by omega
    clear hx hxr hgn
    go_upto_region 14 with fail
    obtain ⟨w5,hw5⟩ : ∃ y,y = wr.alloc (.cells #[.int .i64 ok,.int .i64 on,.slice UA cs.length ucap] 39) := ⟨_,rfl⟩
    obtain ⟨bo,hbo⟩ : ∃ y,y = wr.heap.size := ⟨_,rfl⟩
    have hF5 : Fr (fun _ => False) Tr Tr wr w5 := by rw [hw5]; exact Fr.alloc hokr _
    have a0 : w5.cell? ⟨bo,0,none⟩ = some (.int .i64 ok) := by rw [hw5,hbo]; go_simp
    have a1 : w5.cell? ⟨bo,1,none⟩ = some (.int .i64 on) := by rw [hw5,hbo]; go_simp
    have a2 : w5.cell? ⟨bo,2,none⟩ = some (.slice UA cs.length ucap) := by rw [hw5,hbo]; go_simp
    have HTO : Hid ((Tr bo).1 = 0) := Lib.hid (by rw [hbo]; exact hokr.new)
    rw [← hw5,← hbo]
    have HL5 := Lib.hid (HLr.out.frF hF5)
    have HR5 := Lib.hid (HRr.out.frF hF5)
    have HX5 := Lib.hid (HXO.out.frF hF5)
    have HF5 := Lib.hid (HFr.out.trans (hF5.mono (fun _ h => h.elim)))
    clear hw5 hbo hF5 o0 o1 o2
    go_upto_region 16 with (first
    | (
     go_at_call 10
     refine (p_doR ⟨ok,on,cs⟩ HL5.out (by omega) HX5.out).mono ?_
     rintro e w6 ⟨cv1,rfl,T6,hL6,hC6,⟨VA,vcap,rfl⟩,hF6⟩
     have b0 := hF6.cell a0 (by rw [HTO.out]; omega)
     have b1 := hF6.cell a1 (by rw [HTO.out]; omega)
     have b2 := hF6.cell a2 (by rw [HTO.out]; omega)
     have HL6 := Lib.hid hL6
     have HR6 := Lib.hid (HR5.out.fr hF6 (fun t h => by omega))
     have HX6 := Lib.hid (HX5.out.fr hF6 (fun t h => by omega))
     have HF6 := Lib.hid (HF5.out.trans (hF6.mono (fun t h => by omega)))
     clear hF6 hL6 hC6 a0 a1 a2)
    | (
     go_at_call 11
     refine (did_ok ⟨ok,on,cs⟩ HR6.out (by omega) HX6.out).mono ?_
     rintro e w7 ⟨cv2,rfl,T7,N7,hR7,hd7,hF7⟩
     obtain ⟨WA,wcap,rfl,_,_⟩ := hd7.slice
     have HR7 := Lib.hid hR7
     have HL7 := Lib.hid (HL6.out.fr hF7 (fun t h => by omega))
     have HF7 := Lib.hid (HF6.out.trans (hF7.mono (fun t h => by omega)))
     clear hF7 hR7 hd7))
    go_wp2_with (
     go_at_call 12
     refine (same_ok HL7.out HR7.out (by omega)).mono ?_
     rintro e w8 ⟨rfl,T8,hF8⟩
     have HL8 := Lib.hid (HL7.out.fr hF8 (fun t h => by omega))
     have HR8 := Lib.hid (HR7.out.fr hF8 (fun t h => by omega))
     have HF8 := Lib.hid (HF7.out.trans (hF8.mono (fun _ h => .inr h)))
     clear hF8)
    go_roundw
    case rel => exact ⟨n + 1,by omega,by go_num,T8,N7,by rw [HNX.out]; exact HL8,by rw [HNX.out]; exact HR8,HF8⟩
    case measure => simp [intOf]; omega
   ·have : n = l.length := by omega
    subst this
    clear hgn
    go_wp2_with (
     go_at_call 12
     refine (same_ok HLr.out HRr.out (by omega)).mono ?_
     rintro e w8 ⟨rfl,T8,hF8⟩
     have HF8 := Lib.hid (HFr.out.trans (hF8.mono (fun _ h => .inr h)))
     clear hF8)
    go_ret
    exact ⟨rfl,T8,HF4.out.trans (HF8.out.mono (fun t h => by omega))⟩
end Go.Proofs.YtclkokkppgchfaaGreat
namespace Go.Proofs.YtclkokkppgchfaaGreat
open Go.ChangeShapes Go.WideShapes Go.ChangeAt Go.RowKit Go.Joins Go.Deep Go.Ng
section
variable {H : Type} {enc : TypeId × Value → H} {w : World} {base base0 : Nat} {spare : Nat → Bool} {held : Bool}
set_option maxRecDepth 100000 in
theorem open_ints_arg {v : Value} {d : DataW H} {p : List MemPlace} (hv : Value.okWide Tryz.prog w .any base0 22 v) (h : DataW.Trod enc Tryz.prog w base spare held 22 v d p) : ∃ l : List Int,Rd 1 w v l.length (ints l) ∧ Ext tag0 w v := by
 obtain ⟨a,len,cap,rfl⟩ := okWide_slice Tryz.underlying22 hv
 obtain ⟨n,hn⟩ := h
 refine open_intsRd hn (base0 := base0) ?_
 simpa only [Value.okWide,Tryz.underlying22] using hv
end
end Go.Proofs.YtclkokkppgchfaaGreat
namespace Go.Proofs.YtclkokkppgchfaaGreat
open Go.ChangeShapes Go.WideShapes Go.ChangeAt Go.RowKit Go.Joins Go.Deep Go.Ng
section
variable {H : Type} {enc : TypeId × Value → H} {w : World} {base base0 : Nat} {spare : Nat → Bool} {held : Bool}
set_option maxRecDepth 100000 in
theorem open_ops_arg {v : Value} {d : DataW H} {p : List MemPlace} (hv : Value.okWide Tryz.prog w .any base0 23 v) (h : DataW.Trod enc Tryz.prog w base spare held 23 v d p) : ∃ l : List OpM,OpsRd tag0 w v l := by
 obtain ⟨a,len,cap,rfl⟩ := okWide_slice Tryz.underlying23 hv
 obtain ⟨n,hn⟩ := h
 refine open_ops hn (base0 := base0) ?_
 simpa only [Value.okWide,Tryz.underlying23] using hv
set_option maxRecDepth 100000 in
theorem open_int_arg {v : Value} {d : DataW H} {p : List MemPlace} (hv : Value.okWide Tryz.prog w .any base0 3 v) (h : DataW.Trod enc Tryz.prog w base spare held 3 v d p) : ∃ n : Int,v = .int .i64 n := by
 obtain ⟨n,h1,_⟩ := open_int Tryz.underlying3 hv h
 exact ⟨n,h1⟩
end
end Go.Proofs.YtclkokkppgchfaaGreat
