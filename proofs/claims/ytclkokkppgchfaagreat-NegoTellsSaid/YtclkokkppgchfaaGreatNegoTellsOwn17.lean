/- A part of the proof: texts of this session, joined. -/
import Derived.Test.YtclkokkppgchfaaGreatNegoTellsOwn16
import Derived.Test.YtclkokkppgchfaaGreatShort
set_option linter.unusedSimpArgs false
set_option linter.unusedVariables false
namespace Go.Proofs.YtclkokkppgchfaaGreat
open Go.RowKit Go.Ng Go.Proofs.YtclkokkppgchfaaGreatW.PrintLast
theorem notes_snoc (N : NetM) (cs : List Came) (c : Came) : (cs ++ [c]).foldl noteM N = noteM (cs.foldl noteM N) c := by simp
theorem notes_places : ∀ (cs : List Came) (N : NetM),(cs.foldl noteM N).places = N.places
  | [],N => rfl
  | c :: cs,N => by
    rw [List.foldl_cons,notes_places cs]
    unfold noteM
    split
    · rfl
    · split <;> rfl
set_option maxRecDepth 100000 in
set_option maxHeartbeats 3200000 in
theorem rnote_ok {tag : Nat → Tag} {w : World} {B R q : Nat} {N : NetM} {cv : Value} {cs : List Came} (h : RNRep tag B w q N) (hok : TagOk tag w) (hRB : R ≠ B) (h32 : N.places.length ≤ 32) (hc : Row tag (R,2,0) 61 3 w cv cs.length (cames cs))
    (hit : ∀ c ∈ cs,c.kind = 3 → ∃ j : Nat,c.item = j ∧ j < N.history.length) (hcl : cs.length ≤ 100000) (hd : N.decided.length ≤ 100000) (hh : ∀ j,(N.history.getD j []).length ≤ 100000) :
    Calls Tryz.prog 71 #[.pointer (some ⟨q,0,none⟩),cv] w fun e w' => e = .returned (.tuple #[]) ∧ ∃ tag',RNRep tag' B w' q (cs.foldl noteM N) ∧ Fr (fun t => t.1 = B) tag tag' w w' := by
  obtain ⟨j0,hj,hy0,hy1,hy2⟩ := info_parts Tryz.info3
  obtain ⟨CA,ccap,rfl,q5,q6⟩ := hc.form
  unfold maxLen at q6
  have HC := Lib.hid hc
  have HN := Lib.hid h
  have HIT := Lib.hid hit
  have HH := Lib.hid hh
  clear h hc hit hh
  go_enter Tryz.func71,Tryz.ntmps71
  go_wp2_with fail
  go_loopw [4] (fun i wr => ∃ n : Nat,n ≤ cs.length ∧ i = .int .i64 n ∧ ∃ tagr,Hid (RNRep tagr B wr q ((cs.take n).foldl noteM N)) ∧ Hid (Fr (fun t => t.1 = B) tag tagr w wr)) (fun i _ => cs.length - (intOf i).toNat)
  case atStart => exact ⟨0,Nat.zero_le _,rfl,tag,HN,Lib.hid (Fr.refl hok)⟩
  case round =>
    obtain ⟨n,hn,rfl,tagr,HM,HFr⟩ := hrel
    by_cases hlt : n < cs.length
    · obtain ⟨⟨ck,cp,ci⟩,hx⟩ : ∃ c,cs[n]? = some c := ⟨_,List.getElem?_eq_getElem hlt⟩
      have hmem := List.mem_of_getElem? hx
      obtain ⟨cb,rfl,hbt,hb5,hcel⟩ := Row.elem (enc := Came.cells) HC.out (fun _ => rfl) (by decide) hx
      have hkb : ¬ (tag cb).1 = B := by rw [hbt]; exact hRB
      have e0 : wr.cell? ⟨cb,n * 3,none⟩ = some (.int .i64 ck) := HFr.out.cell (hcel 0 _ rfl) hkb
      have e1 : wr.cell? ⟨cb,n * 3 + 1,none⟩ = some (.int .i64 cp) := HFr.out.cell (hcel 1 _ rfl) hkb
      have e2 : wr.cell? ⟨cb,n * 3 + 2,none⟩ = some (.int .i64 ci) := HFr.out.cell (hcel 2 _ rfl) hkb
      have htk : cs.take (n + 1) = cs.take n ++ [⟨ck,cp,ci⟩] := by
        rw [List.take_succ_eq_append_getElem hlt]
        congr 2
        exact (List.getElem?_eq_some_iff.1 hx).2
      have HT := Lib.hid htk
      have i5 : (0 : Int) ≤ (n : Int) := by omega
      have i6 : (n : Int) < (cs.length : Int) := by omega
      have hokr := HFr.out.dom
      have HCT : Hid (tagr cb = (R,2,0)) := Lib.hid (by rw [HFr.out.same cb hb5]; exact hbt)
      have hsm := notes_same (cs.take n) N
      have hpl := notes_places (cs.take n) N
      have hct : (cs.take n).length ≤ 100000 := by rw [List.length_take]; omega
      have hitm := HIT.out _ hmem
      obtain ⟨M,hM⟩ : ∃ M,M = (cs.take n).foldl noteM N := ⟨_,rfl⟩
      rw [← hM] at HM hsm hpl
      have HEM := Lib.hid hM
      have HS := Lib.hid hsm
      have hM32 : M.places.length ≤ 32 := by rw [hpl]; exact h32
      obtain ⟨mpv,mfv,mxv,mhv,myv,mdv,mce,m2,m4,m5,m7,⟨myvs,m8,m9⟩,m10⟩ := HM.out.cells
      have HMC := Lib.hid mce
      have hqw := lt_of_heap mce
      have HMT := Lib.hid HM.out.tptr
      clear hx hmem hcel htk hsm hM m2 m4 m5 m7 hpl
      by_cases hk1 : ck = 1
      · subst hk1
        obtain ⟨DA,dcap,rfl,g1,g2⟩ := m10.form
        unfold maxLen at g2
        have c5 : wr.cell? ⟨q,5,none⟩ = some (.slice DA M.decided.length dcap) := cell_of mce 5
        have H10 := Lib.hid m10
        have hdl : M.decided.length ≤ 200000 := by have := HS.out.2.2.1; omega
        clear mce m8 m9 m10
        go_wp2_with fail
        refine start_ (n:=15) (S:=fun w' => w'.cell? ⟨q,5,none⟩ = some (.slice DA M.decided.length dcap) ∧ w'.cell? ⟨cb,n * 3 + 1,none⟩ = some (.int .i64 cp)) (ds := [14]) #[f_,f_,f_,f_,f_,f_,f_,f_,f_,f_,f_,f_,f_,f_,f_] (by kernel_rfl) rfl rfl ⟨c5,e1⟩ (fun hHeld => ?_)
        refine pure_ (i:=0) (N:=some 51) (v:=?_) (a':=?_) #[t_,f_,f_,f_,f_,f_,f_,f_,f_,f_,f_,f_,f_,f_,f_] rfl rfl (by kernel_rfl) (fun _ _ _ h => h) (Or.inl ⟨by rfl,?_⟩) ?_ ?_
        rotate_left;intro w';go_simp;with_reducible rfl;rotate_left;simp only [Act.put,sA_,sB_,sC_,i64_w,i32_w];rfl
        refine pure_ (i:=1) (N:=some 52) (v:=?_) (a':=?_) #[t_,t_,f_,f_,f_,f_,f_,f_,f_,f_,f_,f_,f_,f_,f_] rfl rfl (by kernel_rfl) (fun _ _ _ h => h) (Or.inl ⟨by rfl,?_⟩) ?_ ?_
        rotate_left;intro w';go_simp;with_reducible rfl;rotate_left;simp only [Act.put,sA_,sB_,sC_,i64_w,i32_w];rfl
        refine pure_ (i:=2) (N:=some 53) (v:=?_) (a':=?_) #[t_,t_,t_,f_,f_,f_,f_,f_,f_,f_,f_,f_,f_,f_,f_] rfl rfl (by kernel_rfl) (fun _ _ _ h => h) (Or.inl ⟨by rfl,?_⟩) ?_ ?_
        rotate_left;intro w';go_simp;with_reducible rfl;rotate_left;simp only [Act.put,sA_,sB_,sC_,i64_w,i32_w];rfl
        refine pure_ (i:=3) (N:=some 54) (v:=?_) (a':=?_) #[t_,t_,t_,t_,f_,f_,f_,f_,f_,f_,f_,f_,f_,f_,f_] rfl rfl (by kernel_rfl) (fun _ _ _ h => h) (Or.inl ⟨by rfl,?_⟩) ?_ ?_
        rotate_left;intro w';go_simp;with_reducible rfl;rotate_left;simp only [Act.put,sA_,sB_,sC_,i64_w,i32_w];rfl
        refine pure_ (i:=5) (N:=some 56) (v:=?_) (a':=?_) #[t_,t_,t_,t_,f_,t_,f_,f_,f_,f_,f_,f_,f_,f_,f_] rfl rfl (by kernel_rfl) (fun _ _ _ h => h) (Or.inl ⟨by rfl,?_⟩) ?_ ?_
        rotate_left;intro w';go_simp;with_reducible rfl;rotate_left;simp only [Act.put,sA_,sB_,sC_,i64_w,i32_w];rfl
        refine pure_ (i:=6) (N:=some 57) (v:=?_) (a':=?_) #[t_,t_,t_,t_,f_,t_,t_,f_,f_,f_,f_,f_,f_,f_,f_] rfl rfl (by kernel_rfl) (fun _ _ _ h => h) (Or.inl ⟨by rfl,?_⟩) ?_ ?_
        rotate_left;intro w';go_simp;with_reducible rfl;rotate_left;simp only [Act.put,sA_,sB_,sC_,i64_w,i32_w];rfl
        refine pure_ (i:=7) (N:=some 58) (v:=?_) (a':=?_) #[t_,t_,t_,t_,f_,t_,t_,t_,f_,f_,f_,f_,f_,f_,f_] rfl rfl (by kernel_rfl) (fun _ _ _ h => h) (Or.inl ⟨by rfl,?_⟩) ?_ ?_
        rotate_left;intro w';go_simp;with_reducible rfl;rotate_left;simp only [Act.put,sA_,sB_,sC_,i64_w,i32_w];rfl
        refine pure_ (i:=8) (N:=some 59) (v:=?_) (a':=?_) #[t_,t_,t_,t_,f_,t_,t_,t_,t_,f_,f_,f_,f_,f_,f_] rfl rfl (by kernel_rfl) (fun _ _ _ h => h) (Or.inl ⟨by rfl,?_⟩) ?_ ?_
        rotate_left;intro w';go_simp;with_reducible rfl;rotate_left;simp only [Act.put,sA_,sB_,sC_,i64_w,i32_w];rfl
        refine take_ (i:=4) (N:=some 55) (v:=?_) (a':=?_) #[t_,t_,t_,t_,t_,t_,t_,t_,t_,f_,f_,f_,f_,f_,f_] rfl rfl (by kernel_rfl) (fun _ _ _ h => h) (Or.inl ⟨by rfl,?_⟩) hHeld ?_ ?_
        rotate_left;rintro w' ⟨s0,s1⟩;go_simp;with_reducible rfl;rotate_left;simp only [Act.put,sA_,sB_,sC_,i64_w,i32_w];rfl
        refine take_ (i:=9) (N:=some 60) (v:=?_) (a':=?_) #[t_,t_,t_,t_,t_,t_,t_,t_,t_,t_,f_,f_,f_,f_,f_] rfl rfl (by kernel_rfl) (fun _ _ _ h => h) (Or.inl ⟨by rfl,?_⟩) hHeld ?_ ?_
        rotate_left;rintro w' ⟨s0,s1⟩;go_simp;with_reducible rfl;rotate_left;simp only [Act.put,sA_,sB_,sC_,i64_w,i32_w];rfl
        refine one_ (i:=10) (N:=some 61) #[t_,t_,t_,t_,t_,t_,t_,t_,t_,t_,t_,f_,f_,f_,f_] rfl rfl (by kernel_rfl) (by decide) (fun K hK => ?_)
        refine value_ (w1:=?_) (v:=?_) (by rfl) rfl ?_ ?_
        rotate_left 2
        · go_simp
          constructor
          · rfl
          · rfl
        refine hK.out _ _ ⟨(ca hHeld.1 _),(ca hHeld.2 _)⟩ (fun hHeld => ?_)
        clear hK K
        refine norm_ (a':=?_) ?_ ?_
        rotate_left
        · show Act.put _ (some 61) _ = _
          simp only [Act.put,sA_,sB_,sC_,i64_w,i32_w]
          rfl
        refine one_ (i:=11) (N:=some 62) #[t_,t_,t_,t_,t_,t_,t_,t_,t_,t_,t_,t_,f_,f_,f_] rfl rfl (by kernel_rfl) (by decide) (fun K hK => ?_)
        refine append_arm (by rfl) rfl (.tmp 55) (.tmp 61) 22 rfl (by rfl) (by rfl) (H10.out.alloc _).drew (hokr.alloc _).drew Tryz.underlying22 hj hy0 hy1 hy2 rfl (by decide) [.int .i64 cp] rfl (news_at (Go.Ng.heap_alloc_at _ _)) (by simp [Value.oneCell']) (by decide) (by unfold maxLen; omega) (by omega) ?_
        intro g cap5 w5 tag5 hrow hfr
        have hc5 := Lib.hid (hfr.heap (heap_alloc_lt HMC.out _) (by rw [HMT.out]; simp))
        have d5 : w5.cell? ⟨q,5,none⟩ = some (.slice DA M.decided.length dcap) := cell_of hc5.out 5
        have d1 : w5.cell? ⟨cb,n * 3 + 1,none⟩ = some (.int .i64 cp) := hfr.cell (ca e1 _) (by rw [HCT.out]; intro e; injection e with e _; exact hRB e)
        have f5 := free_of hc5.out 5
        refine hK.out _ _ ⟨d5,d1⟩ (fun hHeld => ?_)
        clear hK K
        refine norm_ (a':=?_) ?_ ?_
        rotate_left
        · show Act.put _ (some 62) _ = _
          simp only [Act.put,sA_,sB_,sC_,i64_w,i32_w]
          rfl
        refine pure_ (i:=12) (N:=some 63) (v:=?_) (a':=?_) #[t_,t_,t_,t_,t_,t_,t_,t_,t_,t_,t_,t_,t_,f_,f_] rfl rfl (by kernel_rfl) (fun _ _ _ h => h) (Or.inl ⟨by rfl,?_⟩) ?_ ?_
        rotate_left;intro w';go_simp;with_reducible rfl;rotate_left;simp only [Act.put,sA_,sB_,sC_,i64_w,i32_w];rfl
        refine pure_ (i:=13) (N:=some 64) (v:=?_) (a':=?_) #[t_,t_,t_,t_,t_,t_,t_,t_,t_,t_,t_,t_,t_,t_,f_] rfl rfl (by kernel_rfl) (fun _ _ _ h => h) (Or.inl ⟨by rfl,?_⟩) ?_ ?_
        rotate_left;intro w';go_simp;with_reducible rfl;rotate_left;simp only [Act.put,sA_,sB_,sC_,i64_w,i32_w];rfl
        refine last_ (i:=14) (N:=none) #[t_,t_,t_,t_,t_,t_,t_,t_,t_,t_,t_,t_,t_,t_,t_] rfl rfl (by kernel_rfl) (by decide) (fun K hK => ?_)
        refine skip_ (w1:=?_) (by rfl) rfl ?_ ?_
        rotate_left
        · go_simp
          rfl
        refine hK.out _ _ ?_
        clear hK K
        refine done_ (by kernel_rfl) ?_
        clear hHeld
        have HROW := Lib.hid hrow
        have hF5 : Fr (fun t => t = (B,1,0) ∨ t = (B,10,0)) tagr tag5 wr w5 := ((Fr.refl hokr).al _).dr.trans (hfr.mono (fun _ h => .inr h))
        have HF5 := Lib.hid hF5
        clear hF5 hfr hrow
        go_wp2_with fail
        go_roundw
        case rel =>
          have ht5 : tag5 q = (B,1,0) := (HF5.out.same _ hqw).trans HMT.out
          have hFs : Fr (fun t => t = (B,1,0)) tag5 tag5 w5 (w5.setCell ⟨q,5,none⟩ (.slice (some ⟨g,0,none⟩) (M.decided.length + 1) cap5)) := Fr.setCell HF5.out.dom (a := ⟨q,5,none⟩) ht5 _
          have hFe := HF5.out.trans (hFs.mono (S' := fun t => t = (B,1,0) ∨ t = (B,10,0)) (fun _ h => .inl h))
          refine ⟨n + 1,by omega,by go_num,tag5,Lib.hid ?_,Lib.hid (HFr.out.trans (hFe.mono (fun t h => by rcases h with h | h <;> rw [h])))⟩
          rw [HT.out,notes_snoc,← HEM.out]
          have hnm : noteM M ⟨1,cp,ci⟩ = { M with decided := M.decided ++ [cp] } := by simp [noteM]
          rw [hnm]
          refine HM.out.set_decided hFe (fun _ h => by rcases h with h | h; exact .inl h; exact .inr (.inl h)) hM32 _ ?_
          intro pv' fv' cv' hv' yv' dv' hx
          obtain ⟨rfl,rfl,rfl,rfl,rfl,rfl⟩ : pv' = mpv ∧ fv' = mfv ∧ cv' = mxv ∧ hv' = mhv ∧ yv' = myv ∧ dv' = _ := by
            have := hx.symm.trans HMC.out
            simpa using this
          refine ⟨.slice (some ⟨g,0,none⟩) (M.decided.length + 1) cap5,?_,?_⟩
          · rw [Go.Ng.heap_setCell_same hc5.out]; rfl
          · rw [List.length_append,ints_snoc]
            exact HROW.out.fr hFs (by simp)
        case measure => simp [intOf]; omega
      · have hk1' : (ck == 1) = false := by rw [beq_eq_false_iff_ne]; exact hk1
        by_cases hk3 : ck = 3
        · subst hk3
          obtain ⟨j,hji,hjl⟩ := hitm rfl
          simp only at hji
          subst hji
          have hjl2 : j < M.history.length := by rw [HS.out.2.1]; exact hjl
          obtain ⟨hl0,hhl⟩ : ∃ h,M.history[j]? = some h := ⟨_,List.getElem?_eq_getElem hjl2⟩
          obtain ⟨yu,hyu,hyr⟩ := m9 j hl0 hhl
          obtain ⟨YA,ycap,rfl,g1,g2⟩ := m8.form
          obtain ⟨UA,ucap,rfl,g3,g4⟩ := hyr.form
          unfold maxLen at g2 g4
          have hyl : j < myvs.length := (List.getElem?_eq_some_iff.1 hyu).1
          obtain ⟨yb,rfl,hybt,hyb,hyc⟩ := m8.cell rfl (j:=j) hyl
          obtain ⟨yb',ycap',ycur,hyv',_,hyheap,_,_,_⟩ := m8.block (by omega)
          injection hyv' with hyv' _ _
          injection hyv' with hyv'
          injection hyv' with hyv'
          subst hyv'
          have c4 : wr.cell? ⟨q,4,none⟩ = some (.slice (some ⟨yb,0,none⟩) M.history.length ycap) := cell_of mce 4
          have u0 : wr.cell? ⟨yb,j,none⟩ = some (.slice UA hl0.length ucap) := by rw [hyc]; exact hyu
          have hul : hl0.length ≤ 200000 := by
            have h1 := HS.out.2.2.2 j
            have h2 := HH.out j
            have h3 : M.history.getD j [] = hl0 := by simp [hhl]
            rw [h3] at h1
            omega
          have i7 : (0 : Int) ≤ (j : Int) := by omega
          have i8 : (j : Int) < (M.history.length : Int) := by omega
          have H8 := Lib.hid m8
          have HU := Lib.hid hyr
          have HHL := Lib.hid hhl
          have HYH := Lib.hid hyheap
          have H9 := Lib.hid m9
          have HYL : Hid (myvs.length = M.history.length) := Lib.hid (by have := m8.len; omega)
          clear mce m8 m9 m10 hyu hyr hyc hhl hyheap
          go_wp2_with fail
          refine start_ (n:=29) (S:=fun w' => w'.cell? ⟨q,4,none⟩ = some (.slice (some ⟨yb,0,none⟩) M.history.length ycap) ∧ w'.cell? ⟨yb,j,none⟩ = some (.slice UA hl0.length ucap) ∧ w'.cell? ⟨cb,n * 3 + 1,none⟩ = some (.int .i64 cp) ∧ w'.cell? ⟨cb,n * 3 + 2,none⟩ = some (.int .i64 (j : Int))) (ds := [28]) #[f_,f_,f_,f_,f_,f_,f_,f_,f_,f_,f_,f_,f_,f_,f_,f_,f_,f_,f_,f_,f_,f_,f_,f_,f_,f_,f_,f_,f_] (by kernel_rfl) rfl rfl ⟨c4,u0,e1,e2⟩ (fun hHeld => ?_)
          refine pure_ (i:=0) (N:=some 17) (v:=?_) (a':=?_) #[t_,f_,f_,f_,f_,f_,f_,f_,f_,f_,f_,f_,f_,f_,f_,f_,f_,f_,f_,f_,f_,f_,f_,f_,f_,f_,f_,f_,f_] rfl rfl (by kernel_rfl) (fun _ _ _ h => h) (Or.inl ⟨by rfl,?_⟩) ?_ ?_
          rotate_left;intro w';go_simp;with_reducible rfl;rotate_left;simp only [Act.put,sA_,sB_,sC_,i64_w,i32_w];rfl
          refine pure_ (i:=1) (N:=some 18) (v:=?_) (a':=?_) #[t_,t_,f_,f_,f_,f_,f_,f_,f_,f_,f_,f_,f_,f_,f_,f_,f_,f_,f_,f_,f_,f_,f_,f_,f_,f_,f_,f_,f_] rfl rfl (by kernel_rfl) (fun _ _ _ h => h) (Or.inl ⟨by rfl,?_⟩) ?_ ?_
          rotate_left;intro w';go_simp;with_reducible rfl;rotate_left;simp only [Act.put,sA_,sB_,sC_,i64_w,i32_w];rfl
          refine pure_ (i:=2) (N:=some 19) (v:=?_) (a':=?_) #[t_,t_,t_,f_,f_,f_,f_,f_,f_,f_,f_,f_,f_,f_,f_,f_,f_,f_,f_,f_,f_,f_,f_,f_,f_,f_,f_,f_,f_] rfl rfl (by kernel_rfl) (fun _ _ _ h => h) (Or.inl ⟨by rfl,?_⟩) ?_ ?_
          rotate_left;intro w';go_simp;with_reducible rfl;rotate_left;simp only [Act.put,sA_,sB_,sC_,i64_w,i32_w];rfl
          refine pure_ (i:=4) (N:=some 21) (v:=?_) (a':=?_) #[t_,t_,t_,f_,t_,f_,f_,f_,f_,f_,f_,f_,f_,f_,f_,f_,f_,f_,f_,f_,f_,f_,f_,f_,f_,f_,f_,f_,f_] rfl rfl (by kernel_rfl) (fun _ _ _ h => h) (Or.inl ⟨by rfl,?_⟩) ?_ ?_
          rotate_left;intro w';go_simp;with_reducible rfl;rotate_left;simp only [Act.put,sA_,sB_,sC_,i64_w,i32_w];rfl
          refine pure_ (i:=5) (N:=some 22) (v:=?_) (a':=?_) #[t_,t_,t_,f_,t_,t_,f_,f_,f_,f_,f_,f_,f_,f_,f_,f_,f_,f_,f_,f_,f_,f_,f_,f_,f_,f_,f_,f_,f_] rfl rfl (by kernel_rfl) (fun _ _ _ h => h) (Or.inl ⟨by rfl,?_⟩) ?_ ?_
          rotate_left;intro w';go_simp;with_reducible rfl;rotate_left;simp only [Act.put,sA_,sB_,sC_,i64_w,i32_w];rfl
          refine pure_ (i:=6) (N:=some 23) (v:=?_) (a':=?_) #[t_,t_,t_,f_,t_,t_,t_,f_,f_,f_,f_,f_,f_,f_,f_,f_,f_,f_,f_,f_,f_,f_,f_,f_,f_,f_,f_,f_,f_] rfl rfl (by kernel_rfl) (fun _ _ _ h => h) (Or.inl ⟨by rfl,?_⟩) ?_ ?_
          rotate_left;intro w';go_simp;with_reducible rfl;rotate_left;simp only [Act.put,sA_,sB_,sC_,i64_w,i32_w];rfl
          refine pure_ (i:=7) (N:=some 24) (v:=?_) (a':=?_) #[t_,t_,t_,f_,t_,t_,t_,t_,f_,f_,f_,f_,f_,f_,f_,f_,f_,f_,f_,f_,f_,f_,f_,f_,f_,f_,f_,f_,f_] rfl rfl (by kernel_rfl) (fun _ _ _ h => h) (Or.inl ⟨by rfl,?_⟩) ?_ ?_
          rotate_left;intro w';go_simp;with_reducible rfl;rotate_left;simp only [Act.put,sA_,sB_,sC_,i64_w,i32_w];rfl
          refine pure_ (i:=9) (N:=some 26) (v:=?_) (a':=?_) #[t_,t_,t_,f_,t_,t_,t_,t_,f_,t_,f_,f_,f_,f_,f_,f_,f_,f_,f_,f_,f_,f_,f_,f_,f_,f_,f_,f_,f_] rfl rfl (by kernel_rfl) (fun _ _ _ h => h) (Or.inl ⟨by rfl,?_⟩) ?_ ?_
          rotate_left;intro w';go_simp;with_reducible rfl;rotate_left;simp only [Act.put,sA_,sB_,sC_,i64_w,i32_w];rfl
          refine pure_ (i:=10) (N:=some 27) (v:=?_) (a':=?_) #[t_,t_,t_,f_,t_,t_,t_,t_,f_,t_,t_,f_,f_,f_,f_,f_,f_,f_,f_,f_,f_,f_,f_,f_,f_,f_,f_,f_,f_] rfl rfl (by kernel_rfl) (fun _ _ _ h => h) (Or.inl ⟨by rfl,?_⟩) ?_ ?_
          rotate_left;intro w';go_simp;with_reducible rfl;rotate_left;simp only [Act.put,sA_,sB_,sC_,i64_w,i32_w];rfl
          refine pure_ (i:=11) (N:=some 28) (v:=?_) (a':=?_) #[t_,t_,t_,f_,t_,t_,t_,t_,f_,t_,t_,t_,f_,f_,f_,f_,f_,f_,f_,f_,f_,f_,f_,f_,f_,f_,f_,f_,f_] rfl rfl (by kernel_rfl) (fun _ _ _ h => h) (Or.inl ⟨by rfl,?_⟩) ?_ ?_
          rotate_left;intro w';go_simp;with_reducible rfl;rotate_left;simp only [Act.put,sA_,sB_,sC_,i64_w,i32_w];rfl
          refine pure_ (i:=13) (N:=some 30) (v:=?_) (a':=?_) #[t_,t_,t_,f_,t_,t_,t_,t_,f_,t_,t_,t_,f_,t_,f_,f_,f_,f_,f_,f_,f_,f_,f_,f_,f_,f_,f_,f_,f_] rfl rfl (by kernel_rfl) (fun _ _ _ h => h) (Or.inl ⟨by rfl,?_⟩) ?_ ?_
          rotate_left;intro w';go_simp;with_reducible rfl;rotate_left;simp only [Act.put,sA_,sB_,sC_,i64_w,i32_w];rfl
          refine pure_ (i:=14) (N:=some 31) (v:=?_) (a':=?_) #[t_,t_,t_,f_,t_,t_,t_,t_,f_,t_,t_,t_,f_,t_,t_,f_,f_,f_,f_,f_,f_,f_,f_,f_,f_,f_,f_,f_,f_] rfl rfl (by kernel_rfl) (fun _ _ _ h => h) (Or.inl ⟨by rfl,?_⟩) ?_ ?_
          rotate_left;intro w';go_simp;with_reducible rfl;rotate_left;simp only [Act.put,sA_,sB_,sC_,i64_w,i32_w];rfl
          refine pure_ (i:=15) (N:=some 32) (v:=?_) (a':=?_) #[t_,t_,t_,f_,t_,t_,t_,t_,f_,t_,t_,t_,f_,t_,t_,t_,f_,f_,f_,f_,f_,f_,f_,f_,f_,f_,f_,f_,f_] rfl rfl (by kernel_rfl) (fun _ _ _ h => h) (Or.inl ⟨by rfl,?_⟩) ?_ ?_
          rotate_left;intro w';go_simp;with_reducible rfl;rotate_left;simp only [Act.put,sA_,sB_,sC_,i64_w,i32_w];rfl
          refine pure_ (i:=16) (N:=some 33) (v:=?_) (a':=?_) #[t_,t_,t_,f_,t_,t_,t_,t_,f_,t_,t_,t_,f_,t_,t_,t_,t_,f_,f_,f_,f_,f_,f_,f_,f_,f_,f_,f_,f_] rfl rfl (by kernel_rfl) (fun _ _ _ h => h) (Or.inl ⟨by rfl,?_⟩) ?_ ?_
          rotate_left;intro w';go_simp;with_reducible rfl;rotate_left;simp only [Act.put,sA_,sB_,sC_,i64_w,i32_w];rfl
          refine pure_ (i:=20) (N:=some 37) (v:=?_) (a':=?_) #[t_,t_,t_,f_,t_,t_,t_,t_,f_,t_,t_,t_,f_,t_,t_,t_,t_,f_,f_,f_,t_,f_,f_,f_,f_,f_,f_,f_,f_] rfl rfl (by kernel_rfl) (fun _ _ _ h => h) (Or.inl ⟨by rfl,?_⟩) ?_ ?_
          rotate_left;intro w';go_simp;with_reducible rfl;rotate_left;simp only [Act.put,sA_,sB_,sC_,i64_w,i32_w];rfl
          refine pure_ (i:=21) (N:=some 38) (v:=?_) (a':=?_) #[t_,t_,t_,f_,t_,t_,t_,t_,f_,t_,t_,t_,f_,t_,t_,t_,t_,f_,f_,f_,t_,t_,f_,f_,f_,f_,f_,f_,f_] rfl rfl (by kernel_rfl) (fun _ _ _ h => h) (Or.inl ⟨by rfl,?_⟩) ?_ ?_
          rotate_left;intro w';go_simp;with_reducible rfl;rotate_left;simp only [Act.put,sA_,sB_,sC_,i64_w,i32_w];rfl
          refine pure_ (i:=22) (N:=some 39) (v:=?_) (a':=?_) #[t_,t_,t_,f_,t_,t_,t_,t_,f_,t_,t_,t_,f_,t_,t_,t_,t_,f_,f_,f_,t_,t_,t_,f_,f_,f_,f_,f_,f_] rfl rfl (by kernel_rfl) (fun _ _ _ h => h) (Or.inl ⟨by rfl,?_⟩) ?_ ?_
          rotate_left;intro w';go_simp;with_reducible rfl;rotate_left;simp only [Act.put,sA_,sB_,sC_,i64_w,i32_w];rfl
          refine pure_ (i:=23) (N:=some 40) (v:=?_) (a':=?_) #[t_,t_,t_,f_,t_,t_,t_,t_,f_,t_,t_,t_,f_,t_,t_,t_,t_,f_,f_,f_,t_,t_,t_,t_,f_,f_,f_,f_,f_] rfl rfl (by kernel_rfl) (fun _ _ _ h => h) (Or.inl ⟨by rfl,?_⟩) ?_ ?_
          rotate_left;intro w';go_simp;with_reducible rfl;rotate_left;simp only [Act.put,sA_,sB_,sC_,i64_w,i32_w];rfl
          refine take_ (i:=3) (N:=some 20) (v:=?_) (a':=?_) #[t_,t_,t_,t_,t_,t_,t_,t_,f_,t_,t_,t_,f_,t_,t_,t_,t_,f_,f_,f_,t_,t_,t_,t_,f_,f_,f_,f_,f_] rfl rfl (by kernel_rfl) (fun _ _ _ h => h) (Or.inl ⟨by rfl,?_⟩) hHeld ?_ ?_
          rotate_left;rintro w' ⟨s0,s1,s2,s3⟩;go_simp;with_reducible rfl;rotate_left;simp only [Act.put,sA_,sB_,sC_,i64_w,i32_w];rfl
          refine take_ (i:=8) (N:=some 25) (v:=?_) (a':=?_) #[t_,t_,t_,t_,t_,t_,t_,t_,t_,t_,t_,t_,f_,t_,t_,t_,t_,f_,f_,f_,t_,t_,t_,t_,f_,f_,f_,f_,f_] rfl rfl (by kernel_rfl) (fun _ _ _ h => h) (Or.inl ⟨by rfl,?_⟩) hHeld ?_ ?_
          rotate_left;rintro w' ⟨s0,s1,s2,s3⟩;go_simp;with_reducible rfl;rotate_left;simp only [Act.put,sA_,sB_,sC_,i64_w,i32_w];rfl
          refine take_ (i:=12) (N:=some 29) (v:=?_) (a':=?_) #[t_,t_,t_,t_,t_,t_,t_,t_,t_,t_,t_,t_,t_,t_,t_,t_,t_,f_,f_,f_,t_,t_,t_,t_,f_,f_,f_,f_,f_] rfl rfl (by kernel_rfl) (fun _ _ _ h => h) (Or.inl ⟨by rfl,?_⟩) hHeld ?_ ?_
          rotate_left;rintro w' ⟨s0,s1,s2,s3⟩;go_simp;with_reducible rfl;rotate_left;simp only [Act.put,sA_,sB_,sC_,i64_w,i32_w];rfl
          refine take_ (i:=17) (N:=some 34) (v:=?_) (a':=?_) #[t_,t_,t_,t_,t_,t_,t_,t_,t_,t_,t_,t_,t_,t_,t_,t_,t_,t_,f_,f_,t_,t_,t_,t_,f_,f_,f_,f_,f_] rfl rfl (by kernel_rfl) (fun _ _ _ h => h) (Or.inl ⟨by rfl,?_⟩) hHeld ?_ ?_
          rotate_left;rintro w' ⟨s0,s1,s2,s3⟩;go_simp;with_reducible rfl;rotate_left;simp only [Act.put,sA_,sB_,sC_,i64_w,i32_w];rfl
          refine pure_ (i:=18) (N:=some 35) (v:=?_) (a':=?_) #[t_,t_,t_,t_,t_,t_,t_,t_,t_,t_,t_,t_,t_,t_,t_,t_,t_,t_,t_,f_,t_,t_,t_,t_,f_,f_,f_,f_,f_] rfl rfl (by kernel_rfl) (fun _ _ _ h => h) (Or.inl ⟨by rfl,?_⟩) ?_ ?_
          rotate_left;intro w';go_simp;with_reducible rfl;rotate_left;simp only [Act.put,sA_,sB_,sC_,i64_w,i32_w];rfl
          refine take_ (i:=19) (N:=some 36) (v:=?_) (a':=?_) #[t_,t_,t_,t_,t_,t_,t_,t_,t_,t_,t_,t_,t_,t_,t_,t_,t_,t_,t_,t_,t_,t_,t_,t_,f_,f_,f_,f_,f_] rfl rfl (by kernel_rfl) (fun _ _ _ h => h) (Or.inl ⟨by rfl,?_⟩) hHeld ?_ ?_
          rotate_left;rintro w' ⟨s0,s1,s2,s3⟩;go_simp;with_reducible rfl;rotate_left;simp only [Act.put,sA_,sB_,sC_,i64_w,i32_w];rfl
          refine take_ (i:=24) (N:=some 41) (v:=?_) (a':=?_) #[t_,t_,t_,t_,t_,t_,t_,t_,t_,t_,t_,t_,t_,t_,t_,t_,t_,t_,t_,t_,t_,t_,t_,t_,t_,f_,f_,f_,f_] rfl rfl (by kernel_rfl) (fun _ _ _ h => h) (Or.inl ⟨by rfl,?_⟩) hHeld ?_ ?_
          rotate_left;rintro w' ⟨s0,s1,s2,s3⟩;go_simp;with_reducible rfl;rotate_left;simp only [Act.put,sA_,sB_,sC_,i64_w,i32_w];rfl
          refine one_ (i:=25) (N:=some 42) #[t_,t_,t_,t_,t_,t_,t_,t_,t_,t_,t_,t_,t_,t_,t_,t_,t_,t_,t_,t_,t_,t_,t_,t_,t_,t_,f_,f_,f_] rfl rfl (by kernel_rfl) (by decide) (fun K hK => ?_)
          refine value_ (w1:=?_) (v:=?_) (by rfl) rfl ?_ ?_
          rotate_left 2
          · go_simp
            constructor
            · rfl
            · rfl
          refine hK.out _ _ ⟨(ca hHeld.1 _),(ca hHeld.2.1 _),(ca hHeld.2.2.1 _),(ca hHeld.2.2.2 _)⟩ (fun hHeld => ?_)
          clear hK K
          refine norm_ (a':=?_) ?_ ?_
          rotate_left
          · show Act.put _ (some 42) _ = _
            simp only [Act.put,sA_,sB_,sC_,i64_w,i32_w]
            rfl
          refine one_ (i:=26) (N:=some 43) #[t_,t_,t_,t_,t_,t_,t_,t_,t_,t_,t_,t_,t_,t_,t_,t_,t_,t_,t_,t_,t_,t_,t_,t_,t_,t_,t_,f_,f_] rfl rfl (by kernel_rfl) (by decide) (fun K hK => ?_)
          refine append_arm (by rfl) rfl (.tmp 36) (.tmp 42) 22 rfl (by rfl) (by rfl) (HU.out.alloc _).drew (hokr.alloc _).drew Tryz.underlying22 hj hy0 hy1 hy2 rfl (by decide) [.int .i64 cp] rfl (news_at (Go.Ng.heap_alloc_at _ _)) (by simp [Value.oneCell']) (by decide) (by unfold maxLen; omega) (by omega) ?_
          intro g cap5 w5 tag5 hrow hfr
          have hc5 := Lib.hid (hfr.heap (heap_alloc_lt HMC.out _) (by rw [HMT.out]; simp))
          have hy5 := Lib.hid (hfr.heap (heap_alloc_lt HYH.out _) (by rw [hybt]; simp))
          have d4 : w5.cell? ⟨q,4,none⟩ = some (.slice (some ⟨yb,0,none⟩) M.history.length ycap) := cell_of hc5.out 4
          have du : w5.cell? ⟨yb,j,none⟩ = some (.slice UA hl0.length ucap) := hfr.cell (ca u0 _) (by simp [hybt])
          have hnb : ¬ tagr cb = (B,9,(j : Int)) := by rw [HCT.out]; intro e; injection e with e _; exact hRB e
          have d1 : w5.cell? ⟨cb,n * 3 + 1,none⟩ = some (.int .i64 cp) := hfr.cell (ca e1 _) hnb
          have d2 : w5.cell? ⟨cb,n * 3 + 2,none⟩ = some (.int .i64 (j : Int)) := hfr.cell (ca e2 _) hnb
          have f6 := free_of hy5.out j
          refine hK.out _ _ ⟨d4,du,d1,d2⟩ (fun hHeld => ?_)
          clear hK K
          refine norm_ (a':=?_) ?_ ?_
          rotate_left
          · show Act.put _ (some 43) _ = _
            simp only [Act.put,sA_,sB_,sC_,i64_w,i32_w]
            rfl
          refine pure_ (i:=27) (N:=some 44) (v:=?_) (a':=?_) #[t_,t_,t_,t_,t_,t_,t_,t_,t_,t_,t_,t_,t_,t_,t_,t_,t_,t_,t_,t_,t_,t_,t_,t_,t_,t_,t_,t_,f_] rfl rfl (by kernel_rfl) (fun _ _ _ h => h) (Or.inl ⟨by rfl,?_⟩) ?_ ?_
          rotate_left;intro w';go_simp;with_reducible rfl;rotate_left;simp only [Act.put,sA_,sB_,sC_,i64_w,i32_w];rfl
          refine last_ (i:=28) (N:=none) #[t_,t_,t_,t_,t_,t_,t_,t_,t_,t_,t_,t_,t_,t_,t_,t_,t_,t_,t_,t_,t_,t_,t_,t_,t_,t_,t_,t_,t_] rfl rfl (by kernel_rfl) (by decide) (fun K hK => ?_)
          refine skip_ (w1:=?_) (by rfl) rfl ?_ ?_
          rotate_left
          · go_simp
            rfl
          refine hK.out _ _ ?_
          clear hK K
          refine done_ (by kernel_rfl) ?_
          clear hHeld
          have HROW := Lib.hid hrow
          have hF5 : Fr (fun t => t = (B,9,(j : Int))) tagr tag5 wr w5 := ((Fr.refl hokr).al _).dr.trans hfr
          have HF5 := Lib.hid hF5
          have e0' : (w5.setCell ⟨yb,j,none⟩ (.slice (some ⟨g,0,none⟩) (hl0.length + 1) cap5)).cell? ⟨cb,n * 3,none⟩ = some (.int .i64 3) := (Fr.setCell (S:=fun t => t = (B,8,0)) hfr.dom (a := ⟨yb,j,none⟩) ((hF5.same _ hyb).trans hybt) _).cell (hfr.cell (ca e0 _) hnb) (by
            intro e
            have h1 : tag5 cb = tagr cb := hF5.same cb (Nat.lt_of_lt_of_le hb5 HFr.out.size)
            have h2 : tag5 cb = (B,8,0) := e
            rw [h1,HCT.out] at h2
            injection h2 with h2 _; exact hRB h2)
          clear hF5 hfr hrow
          go_wp2_with fail
          go_roundw
          case rel =>
            have hty : tag5 yb = (B,8,0) := (HF5.out.same _ hyb).trans hybt
            have hFs : Fr (fun t => t = (B,8,0)) tag5 tag5 w5 (w5.setCell ⟨yb,j,none⟩ (.slice (some ⟨g,0,none⟩) (hl0.length + 1) cap5)) := Fr.setCell HF5.out.dom (a := ⟨yb,j,none⟩) hty _
            have hFe : Fr (fun t => t = (B,8,0) ∨ t = (B,9,(j : Int))) tagr tag5 wr _ := (HF5.out.mono (fun _ h => .inr h)).trans (hFs.mono (fun _ h => .inl h))
            refine ⟨n + 1,by omega,by go_num,tag5,Lib.hid ?_,Lib.hid (HFr.out.trans (hFe.mono (fun t h => by rcases h with h | h <;> rw [h])))⟩
            rw [HT.out,notes_snoc,← HEM.out]
            have hnm : noteM M ⟨3,cp,(j : Int)⟩ = { M with history := M.history.set j (hl0 ++ [cp]) } := by
              have h3 : M.history[j]? = some hl0 := HHL.out
              simp [noteM,h3]
            rw [hnm]
            refine HM.out.set_history hFe hjl2 (fun _ h => by rcases h with h | h; exact .inl h; exact .inr (.inl h)) hM32 _ HMC.out HYL.out H9.out ?_ (v:=.slice (some ⟨g,0,none⟩) (hl0.length + 1) cap5) ?_
            · exact Row.set_cell (H8.out.fr HF5.out (by simp)) hjl2 _
            · rw [List.length_append,ints_snoc]
              exact HROW.out.fr hFs (by simp)
          case measure => simp [intOf]; omega
        · have hk3' : (ck == 3) = false := by rw [beq_eq_false_iff_ne]; exact hk3
          clear mce m8 m9 m10
          go_wp2_with fail
          go_roundw
          case rel =>
            refine ⟨n + 1,by omega,by go_num,tagr,Lib.hid ?_,HFr⟩
            rw [HT.out,notes_snoc,← HEM.out]
            have hnm : noteM M ⟨ck,cp,ci⟩ = M := by simp [noteM,hk1,hk3]
            rw [hnm]
            exact HM.out
          case measure => simp [intOf]; omega
    · have : n = cs.length := by omega
      subst this
      go_wp2
      go_end0
      have hM := HM.out
      rw [List.take_length] at hM
      exact ⟨rfl,tagr,hM,HFr.out⟩
theorem erase_next {l : List Post} {n i : Nat} {x : Post} (hx : l[n]? = some x) : (l.take (n + 1)).eraseIdx i = if n = i then (l.take n).eraseIdx i else (l.take n).eraseIdx i ++ [x] := by
  have hn := (List.getElem?_eq_some_iff.1 hx).1
  have ht : l.take (n + 1) = l.take n ++ [x] := by rw [List.take_add_one,hx]; rfl
  have hl : (l.take n).length = n := by rw [List.length_take]; omega
  rw [ht]
  by_cases e : n = i
  · subst e
    rw [if_pos rfl,List.eraseIdx_append_of_length_le (by omega),hl,Nat.sub_self,List.eraseIdx_of_length_le (l := l.take n) (by omega)]
    simp
  · rw [if_neg e]
    by_cases h : i < n
    · rw [List.eraseIdx_append_of_lt_length (by omega)]
    · rw [List.eraseIdx_of_length_le (by simp [hl]; omega),List.eraseIdx_of_length_le (by omega)]
section
variable {S : Tag → Prop} {tag tag' : Nat → Tag} {w w' : World} {B q p : Nat} {N : NetM} {P P' : PlaceM}
theorem rtake_agg {R k pp : Nat} {mk ms md mp mi mv : Int} (h : RPRep tag k w pp P) (hok : TagOk tag w) (hR : R ≠ 0) (hRk : R ≠ k) (hv : Valid P ⟨mk,ms,md,mp,mi,mv⟩) (hW : RWell P)
    (hpr : mk = 2 ∨ mk = 3 → ∃ x,find P.props mp = some x) (hit : mk ≠ 2 → mk ≠ 3 → ∃ it,P.items[mi.toNat]? = some (some it)) :
    Calls Tryz.prog 70 #[.pointer (some ⟨pp,0,none⟩),.agg #[.int .i64 mk,.int .i64 ms,.int .i64 md,.int .i64 mp,.int .i64 mi,.int .i64 mv]] w (RTook R k pp tag w (takeM P ⟨mk,ms,md,mp,mi,mv⟩)) :=
  rtake_ok ⟨mk,ms,md,mp,mi,mv⟩ h hok hR hRk hv hW hpr hit
theorem RNRep.set_place {p2 : Nat} {pv fv cv hv yv dv : Value} {ps : List Nat} (h : RNRep tag B w q N) (hp : p < N.places.length) (hf : Fr S tag tag' w w') (hS : ∀ t,S t → t.1 = B + 1 + p ∨ t = (B,2,0) ∨ B + 32 < t.1) (h32 : N.places.length ≤ 32)
    (hc : w.heap[q]? = some (.cells #[pv,fv,cv,hv,yv,dv] 78 (0,0))) (p1 : ps.length = N.places.length) (p3 : ∀ (i p : Nat) P,ps[i]? = some p → N.places[i]? = some P → RPRep tag (B + 1 + i) w p P)
    (k2 : Row tag' (B,2,0) 79 1 w' pv N.places.length ((ps.set p p2).map rptr)) (hP : RPRep tag' (B + 1 + p) w' p2 P') : RNRep tag' B w' q { N with places := N.places.set p P' } := by
  obtain ⟨pv',fv',cv',hv',yv',dv',h1,_,h4,⟨cvs,h5,h6⟩,h7,⟨yvs,h8,h9⟩,h10⟩ := h.cells
  obtain ⟨rfl,rfl,rfl,rfl,rfl,rfl⟩ : pv' = pv ∧ fv' = fv ∧ cv' = cv ∧ hv' = hv ∧ yv' = yv ∧ dv' = dv := by
    have := h1.symm.trans hc
    simpa using this
  have no : ∀ r j,r ≠ 2 → ¬ S (B,r,j) := fun r j a hs => by
    rcases hS _ hs with e | e | e
    · simp at e; omega
    · simp_all
    · simp at e; omega
  refine ⟨h.b0,(hf.tag_eq hc).trans h.tptr,pv',fv',cv',hv',yv',dv',hf.heap hc (by rw [h.tptr]; exact no _ _ (by decide)),⟨ps.set p p2,by simp [p1],by simpa using k2,fun i x Q a b => ?_⟩,h4.fr hf (no _ _ (by decide)),⟨cvs,h5.fr hf (no _ _ (by decide)),fun i l hl => ?_⟩,h7.fr hf (no _ _ (by decide)),⟨yvs,h8.fr hf (no _ _ (by decide)),fun i l hl => ?_⟩,h10.fr hf (no _ _ (by decide))⟩
  · have b' : (N.places.set p P')[i]? = some Q := b
    by_cases e : i = p
    · subst e
      simp [hp] at b'
      simp [p1,hp] at a
      subst a b'
      exact hP
    · rw [List.getElem?_set_ne (by omega)] at a b'
      have hl := (List.getElem?_eq_some_iff.1 b').1
      refine (p3 i x Q a b').fr hf (fun r j hs => ?_)
      rcases hS _ hs with e' | e' | e'
      · simp at e'; omega
      · simp at e'; omega
      · simp at e'; omega
  · obtain ⟨v,hv,hr⟩ := h6 i l hl
    exact ⟨v,hv,hr.fr hf (no _ _ (by decide))⟩
  · obtain ⟨v,hv,hr⟩ := h9 i l hl
    exact ⟨v,hv,hr.fr hf (no _ _ (by decide))⟩
set_option maxRecDepth 100000 in
set_option maxHeartbeats 12800000 in
theorem rdeliver_ok {i : Nat} {m : Post} (h : RNRep tag B w q N) (hok : TagOk tag w) (hi : N.flight[i]? = some m) (hmp : m.dst = p) (hp : N.places[p]? = some P)
    (hv : Valid P m) (hW : RWell P) (hpr : m.kind = 2 ∨ m.kind = 3 → ∃ x,find P.props m.prop = some x) (hit : m.kind ≠ 2 → m.kind ≠ 3 → ∃ it,P.items[m.item.toNat]? = some (some it))
    (h32 : N.places.length ≤ 32) (hpl : P.props.length ≤ 10000) (hfl : N.flight.length ≤ 19000) (hout : (takeM P m).out.length ≤ 1000) (hcame : (takeM P m).came.length ≤ 1000) (hcit : ∀ c ∈ (takeM P m).came,c.kind = 3 → ∃ j : Nat,c.item = j ∧ j < N.history.length) (hd : N.decided.length ≤ 100000) (hh : ∀ j,(N.history.getD j []).length ≤ 100000) :
    Calls Tryz.prog 39 #[.pointer (some ⟨q,0,none⟩),.int .i64 (i : Int)] w fun e w' => ∃ cv,e = .returned (.tuple #[cv,.int .i64 0]) ∧ ∃ tag',RNRep tag' B w' q (deliverN N i p P m) ∧
      Row tag' (B + 33,2,0) 61 3 w' cv (takeM P m).came.length (cames (takeM P m).came) ∧ Fr (fun t => B ≤ t.1 ∧ t.1 ≤ B + 33) tag tag' w w' := by
  obtain ⟨i0,hinf,hz0,hz1,hz2⟩ := info_parts Tryz.info52
  obtain ⟨mk,ms,md,mp,mi,mv⟩ := m
  simp only at hmp hpr hit
  subst hmp
  have hB0 := h.b0
  have hpw := (List.getElem?_eq_some_iff.1 hp).1
  obtain ⟨T,hT⟩ : ∃ T,takeM P ⟨mk,ms,(p : Int),mp,mi,mv⟩ = T := ⟨_,rfl⟩
  obtain ⟨pv,fv,xv,hv',yv,dv,hce,⟨ps,p1,p2,p3⟩,h4,_⟩ := h.cells
  obtain ⟨FA,fcap,rfl,q1,q2⟩ := h4.form
  obtain ⟨PA,pcap,rfl,q3,q4⟩ := p2.form
  unfold maxLen at q2 q4
  obtain ⟨pp,hpp⟩ : ∃ c,ps[p]? = some c := ⟨_,List.getElem?_eq_getElem (by omega)⟩
  obtain ⟨pb,rfl,hpbt,hpbw,hpbc⟩ := p2.cell rfl (j:=p) (by simp [p1]; omega)
  have u0 : w.cell? ⟨pb,p,none⟩ = some (.pointer (some ⟨pp,0,none⟩)) := by rw [hpbc]; simp [hpp,rptr]
  obtain ⟨fb,rfl,hfbt,hfb,hfe⟩ := Row.elem (enc := Post.cells) h4 (fun _ => rfl) (by decide) hi
  have c0 : w.cell? ⟨q,0,none⟩ = some (.slice (some ⟨pb,0,none⟩) N.places.length pcap) := cell_of hce 0
  have c1 : w.cell? ⟨q,1,none⟩ = some (.slice (some ⟨fb,0,none⟩) N.flight.length fcap) := cell_of hce 1
  have e0 : w.cell? ⟨fb,i * 6,none⟩ = some (.int .i64 mk) := hfe 0 _ rfl
  have e1 : w.cell? ⟨fb,i * 6 + 1,none⟩ = some (.int .i64 ms) := hfe 1 _ rfl
  have e2 : w.cell? ⟨fb,i * 6 + 2,none⟩ = some (.int .i64 (p : Int)) := hfe 2 _ rfl
  have e3 : w.cell? ⟨fb,i * 6 + 3,none⟩ = some (.int .i64 mp) := hfe 3 _ rfl
  have e4 : w.cell? ⟨fb,i * 6 + 4,none⟩ = some (.int .i64 mi) := hfe 4 _ rfl
  have e5 : w.cell? ⟨fb,i * 6 + 5,none⟩ = some (.int .i64 mv) := hfe 5 _ rfl
  have hil := (List.getElem?_eq_some_iff.1 hi).1
  have i1 : (0 : Int) ≤ (i : Int) := by omega
  have i2 : (i : Int) < (N.flight.length : Int) := by omega
  have i3 : (0 : Int) ≤ (p : Int) := by omega
  have i4 : (p : Int) < (N.places.length : Int) := by omega
  have i5 : decide ((i : Int) < 0) = false := by simp
  have hqw := lt_of_heap hce
  have HV := Lib.hid hv
  have HW := Lib.hid hW
  have HPRr := Lib.hid hpr
  have HIT := Lib.hid hit
  have HRP := Lib.hid (p3 p pp P hpp hp)
  have HN := Lib.hid h
  have HCE := Lib.hid hce
  have HP1 := Lib.hid p1
  have HP2 := Lib.hid p2
  have HP3 := Lib.hid p3
  have HTT := Lib.hid hT
  have HPB := Lib.hid hpbt
  have HCIT := Lib.hid hcit
  have HH := Lib.hid hh
  have hTo : T.out.length ≤ 1000 := by rw [← hT]; exact hout
  have hTc : T.came.length ≤ 1000 := by rw [← hT]; exact hcame
  clear h hce h4 p1 p2 p3 hfe hi hv hW hpr hit hp hpp hpbt hpbc hT hcit hh hout hcame
  go_enter Tryz.func39,Tryz.ntmps39
  go_upto_region 6 with fail
  obtain ⟨w1,hw1⟩ : ∃ x,x = w.alloc (.cells #[.int .i64 mk,.int .i64 ms,.int .i64 (p : Int),.int .i64 mp,.int .i64 mi,.int .i64 mv] 52) := ⟨_,rfl⟩
  rw [← hw1]
  obtain ⟨b,hb⟩ : ∃ x,x = w.heap.size := ⟨_,rfl⟩
  rw [← hb]
  have hwb : w.heap.size ≤ b := by omega
  have hA1 : Fr (fun _ => False) tag tag w w1 := by rw [hw1]; exact Fr.alloc hok _
  have HF1 := Lib.hid hA1
  have HM1 : Hid (w1.heap[b]? = some (.cells #[.int .i64 mk,.int .i64 ms,.int .i64 (p : Int),.int .i64 mp,.int .i64 mi,.int .i64 mv] 52 (0,0))) := Lib.hid (by rw [hw1,hb]; exact heap_alloc_at _ _)
  have HTB : Hid ((tag b).1 = 0) := Lib.hid (tag_new hok (by omega))
  have hok1 := hA1.dom
  have C0 := Lib.hid c0
  have U0 := Lib.hid u0
  have k0 : w1.cell? ⟨q,0,none⟩ = some (.slice (some ⟨pb,0,none⟩) N.places.length pcap) := hA1.cellF c0
  have k1 : w1.cell? ⟨pb,p,none⟩ = some (.pointer (some ⟨pp,0,none⟩)) := hA1.cellF u0
  have m2 : w1.cell? ⟨b,2,none⟩ = some (.int .i64 (p : Int)) := cell_of HM1.out 2
  clear hw1 hb hA1 c0 c1 u0 e0 e1 e2 e3 e4 e5
  refine start_ (n:=10) (S:=fun w' => w'.cell? ⟨q,0,none⟩ = some (.slice (some ⟨pb,0,none⟩) N.places.length pcap) ∧ w'.cell? ⟨b,2,none⟩ = some (.int .i64 (p : Int)) ∧ w'.cell? ⟨pb,p,none⟩ = some (.pointer (some ⟨pp,0,none⟩))) (ds := []) #[f_,f_,f_,f_,f_,f_,f_,f_,f_,f_] (by kernel_rfl) rfl rfl ⟨k0,m2,k1⟩ (fun hHeld => ?_)
  refine pure_ (i:=0) (N:=some 32) (v:=?_) (a':=?_) #[t_,f_,f_,f_,f_,f_,f_,f_,f_,f_] rfl rfl (by kernel_rfl) (fun _ _ _ h => h) (Or.inl ⟨by rfl,?_⟩) ?_ ?_
  rotate_left;intro w';go_simp;with_reducible rfl;rotate_left;simp only [Act.put,sA_,sB_,sC_,i64_w,i32_w];rfl
  refine pure_ (i:=1) (N:=some 33) (v:=?_) (a':=?_) #[t_,t_,f_,f_,f_,f_,f_,f_,f_,f_] rfl rfl (by kernel_rfl) (fun _ _ _ h => h) (Or.inl ⟨by rfl,?_⟩) ?_ ?_
  rotate_left;intro w';go_simp;with_reducible rfl;rotate_left;simp only [Act.put,sA_,sB_,sC_,i64_w,i32_w];rfl
  refine pure_ (i:=2) (N:=some 34) (v:=?_) (a':=?_) #[t_,t_,t_,f_,f_,f_,f_,f_,f_,f_] rfl rfl (by kernel_rfl) (fun _ _ _ h => h) (Or.inl ⟨by rfl,?_⟩) ?_ ?_
  rotate_left;intro w';go_simp;with_reducible rfl;rotate_left;simp only [Act.put,sA_,sB_,sC_,i64_w,i32_w];rfl
  refine pure_ (i:=4) (N:=some 36) (v:=?_) (a':=?_) #[t_,t_,t_,f_,t_,f_,f_,f_,f_,f_] rfl rfl (by kernel_rfl) (fun _ _ _ h => h) (Or.inl ⟨by rfl,?_⟩) ?_ ?_
  rotate_left;intro w';go_simp;with_reducible rfl;rotate_left;simp only [Act.put,sA_,sB_,sC_,i64_w,i32_w];rfl
  refine take_ (i:=3) (N:=some 35) (v:=?_) (a':=?_) #[t_,t_,t_,t_,t_,f_,f_,f_,f_,f_] rfl rfl (by kernel_rfl) (fun _ _ _ h => h) (Or.inl ⟨by rfl,?_⟩) hHeld ?_ ?_
  rotate_left;rintro w' ⟨s0,s1,s2⟩;go_simp;with_reducible rfl;rotate_left;simp only [Act.put,sA_,sB_,sC_,i64_w,i32_w];rfl
  refine take_ (i:=5) (N:=some 37) (v:=?_) (a':=?_) #[t_,t_,t_,t_,t_,t_,f_,f_,f_,f_] rfl rfl (by kernel_rfl) (fun _ _ _ h => h) (Or.inl ⟨by rfl,?_⟩) hHeld ?_ ?_
  rotate_left;rintro w' ⟨s0,s1,s2⟩;go_simp;with_reducible rfl;rotate_left;simp only [Act.put,sA_,sB_,sC_,i64_w,i32_w];rfl
  refine pure_ (i:=6) (N:=some 38) (v:=?_) (a':=?_) #[t_,t_,t_,t_,t_,t_,t_,f_,f_,f_] rfl rfl (by kernel_rfl) (fun _ _ _ h => h) (Or.inl ⟨by rfl,?_⟩) ?_ ?_
  rotate_left;intro w';go_simp;with_reducible rfl;rotate_left;simp only [Act.put,sA_,sB_,sC_,i64_w,i32_w];rfl
  refine take_ (i:=7) (N:=some 39) (v:=?_) (a':=?_) #[t_,t_,t_,t_,t_,t_,t_,t_,f_,f_] rfl rfl (by kernel_rfl) (fun _ _ _ h => h) (Or.inl ⟨by rfl,?_⟩) hHeld ?_ ?_
  rotate_left;rintro w' ⟨s0,s1,s2⟩;go_simp;with_reducible rfl;rotate_left;simp only [Act.put,sA_,sB_,sC_,i64_w,i32_w];rfl
  refine one_ (i:=8) (N:=some 40) #[t_,t_,t_,t_,t_,t_,t_,t_,t_,f_] rfl rfl (by kernel_rfl) (by decide) (fun K hK => ?_)
  refine goes_ Tryz.func69 (by kernel_rfl) rfl #[.pointer (some ⟨pp,0,none⟩)] (by rfl) rfl rfl (by simp only [List.map_toArray,List.map_cons,List.map_nil]; rfl) ?_
  with_reducible refine (rcopied_ok (HRP.out.frF (HF1.out.dr)) (TagOk.drew hok1) HW.out hpl).mono ?_
  rintro e w2 ⟨p2,tag2,rfl,hP2,hF2⟩
  refine ⟨_,rfl,?_⟩
  have HF2 := Lib.hid hF2
  have HPC := Lib.hid hP2
  clear hF2 hP2
  refine hK.out _ _ ⟨(HF2.out.cellF hHeld.1),(HF2.out.cellF hHeld.2.1),(HF2.out.cellF hHeld.2.2)⟩ (fun hHeld => ?_)
  clear hK K
  refine norm_ (a':=?_) ?_ ?_
  rotate_left
  · show Act.put _ (some 40) _ = _
    simp only [Act.put,sA_,sB_,sC_,i64_w,i32_w]
    rfl
  refine pure_ (i:=9) (N:=some 7) (v:=?_) (a':=?_) #[t_,t_,t_,t_,t_,t_,t_,t_,t_,t_] rfl rfl (by kernel_rfl) (fun _ _ _ h => h) (Or.inl ⟨by rfl,?_⟩) ?_ ?_
  rotate_left;intro w';go_simp;with_reducible rfl;rotate_left;simp only [Act.put,sA_,sB_,sC_,i64_w,i32_w];rfl
  refine done_ (by kernel_rfl) ?_
  clear hHeld k0 k1 m2
  have HG2 : Hid (Fr (fun _ => False) tag tag2 w w2) := Lib.hid (HF1.out.dr.trans HF2.out)
  have HM2 : Hid (w2.heap[b]? = some (.cells #[.int .i64 mk,.int .i64 ms,.int .i64 (p : Int),.int .i64 mp,.int .i64 mi,.int .i64 mv] 52 (0,0))) := Lib.hid (HF2.out.heap (show w1.drew.heap[b]? = _ from HM1.out) (fun x => x))
  have HTB2 : Hid ((tag2 b).1 = 0) := Lib.hid (by rw [HF2.out.same b (lt_of_heap (show w1.drew.heap[b]? = _ from HM1.out))]; exact HTB.out)
  have hok2 := HG2.out.dom
  have m0 : w2.cell? ⟨b,0,none⟩ = some (.int .i64 mk) := cell_of HM2.out 0
  have m1 : w2.cell? ⟨b,1,none⟩ = some (.int .i64 ms) := cell_of HM2.out 1
  have m2 : w2.cell? ⟨b,2,none⟩ = some (.int .i64 (p : Int)) := cell_of HM2.out 2
  have m3 : w2.cell? ⟨b,3,none⟩ = some (.int .i64 mp) := cell_of HM2.out 3
  have m4 : w2.cell? ⟨b,4,none⟩ = some (.int .i64 mi) := cell_of HM2.out 4
  have m5 : w2.cell? ⟨b,5,none⟩ = some (.int .i64 mv) := cell_of HM2.out 5
  have hR0 : B + 33 ≠ 0 := by omega
  have hRk : B + 33 ≠ B + 1 + p := by omega
  go_upto_region 8 with (
    go_at_call 70
    refine (rtake_agg HPC.out hok2 hR0 hRk HV.out HW.out HPRr.out HIT.out).mono ?_
    rw [HTT.out]
    rintro e w3 ⟨ov,cv,tag3,rfl,h1,h2,h3,h4⟩
    obtain ⟨OA,ocap,rfl,o1,o2⟩ := h1.form
    obtain ⟨VA,vcap,rfl,v1,v2⟩ := h2.form
    have hM3 := h4.heap HM2.out (by intro e; rcases e with e | e <;> (rw [HTB2.out] at e; omega))
    have HM3 := Lib.hid hM3
    have K1 := Lib.hid h1
    have K2 := Lib.hid h2
    have K3 := Lib.hid h3
    have K4 := Lib.hid h4
    clear h1 h2 h3 h4 hM3)
  clear m0 m1 m2 m3 m4 m5
  obtain ⟨w4,hw4⟩ : ∃ x,x = w3.alloc (.cells #[.slice OA T.out.length ocap,.slice VA T.came.length vcap] 130) := ⟨_,rfl⟩
  rw [← hw4]
  obtain ⟨b8,hb8⟩ : ∃ x,x = w3.heap.size := ⟨_,rfl⟩
  rw [← hb8]
  have hA4 : Fr (fun _ => False) tag3 tag3 w3 w4 := by rw [hw4]; exact Fr.alloc K4.out.dom _
  have HO4 : Hid (w4.heap[b8]? = some (.cells #[.slice OA T.out.length ocap,.slice VA T.came.length vcap] 130 (0,0))) := Lib.hid (by rw [hw4,hb8]; exact heap_alloc_at _ _)
  have HM4 := Lib.hid (hA4.heap HM3.out (fun x => x))
  have HTO : Hid ((tag3 b8).1 = 0) := Lib.hid (by rw [hb8]; exact K4.out.dom.new)
  have HTB3 : Hid ((tag3 b).1 = 0) := Lib.hid (by rw [K4.out.same b (lt_of_heap HM2.out)]; exact HTB2.out)
  have HG4 : Hid (Fr (fun t => t.1 = B + 1 + p ∨ t.1 = B + 33) tag tag3 w w4) := Lib.hid ((HG2.out.up.trans K4.out).trans hA4.up)
  have HPO4 := Lib.hid (K1.out.fr hA4 (fun x => x))
  have HCA4 := Lib.hid (K2.out.fr hA4 (fun x => x))
  have HPL4 := Lib.hid (K3.out.frF hA4)
  have hok4 := hA4.dom
  clear hw4 hb8 hA4
  have nq0 : ¬ ((B,1,0) : Tag).1 = B + 1 + p ∧ ¬ ((B,1,0) : Tag).1 = B + 33 := ⟨by simp; omega,by simp⟩
  have hce4 := HG4.out.heap HCE.out (by rw [HN.out.tptr]; rintro (e | e); exact nq0.1 e; exact nq0.2 e)
  have HCE4 := Lib.hid hce4
  have c1 : w4.cell? ⟨q,1,none⟩ = some (.slice (some ⟨fb,0,none⟩) N.flight.length fcap) := cell_of hce4 1
  have o0 : w4.cell? ⟨b8,0,none⟩ = some (.slice OA T.out.length ocap) := cell_of HO4.out 0
  clear hce4 nq0
  have hw1' : IntKind.i64.wrap ((N.flight.length : Int) - 1) = (N.flight.length : Int) - 1 := IntWalk.i64_in _ (by omega)
  have hw2' : IntKind.i64.wrap ((N.flight.length : Int) - 1 + (T.out.length : Int)) = (N.flight.length : Int) - 1 + (T.out.length : Int) := IntWalk.i64_in _ (by omega)
  have hw3' : decide ((20000 : Int) < (N.flight.length : Int) - 1 + (T.out.length : Int)) = false := by simp; omega
  go_upto_region 10 with fail
  go_quiet (fail)
  clear hw1' hw2' hw3'
  go_upto_region 12 with fail
  obtain ⟨w5,hw5⟩ : ∃ x,x = w4.drewN nq := ⟨_,rfl⟩
  rw [← hw5]
  have hA5 : Fr (fun _ => False) tag3 tag3 w4 w5 := by rw [hw5]; exact Fr.drewN hok4 nq
  have HG5 : Hid (Fr (fun t => t.1 = B + 1 + p ∨ t.1 = B + 33) tag tag3 w w5) := Lib.hid (HG4.out.trans hA5.up)
  have HM5 := Lib.hid (hA5.heap HM4.out (fun x => x))
  have HO5 := Lib.hid (hA5.heap HO4.out (fun x => x))
  have HCE5 := Lib.hid (hA5.heap HCE4.out (fun x => x))
  have HPO5 := Lib.hid (HPO4.out.fr hA5 (fun x => x))
  have HCA5 := Lib.hid (HCA4.out.fr hA5 (fun x => x))
  have HPL5 := Lib.hid (HPL4.out.frF hA5)
  have hok5 := hA5.dom
  have hn2 : ¬ (((B,2,0) : Tag).1 = B + 1 + p ∨ ((B,2,0) : Tag).1 = B + 33) := by simp; omega
  have hrp5 := HP2.out.fr HG5.out hn2
  have HRP5 := Lib.hid hrp5
  have y0 : w5.cell? ⟨pb,p,none⟩ = some (.pointer (some ⟨pp,0,none⟩)) := HG5.out.cell U0.out (by rw [HPB.out]; exact hn2)
  have yz0 : w5.frozen? ⟨pb,p,none⟩ = false := Row.free' hrp5 (by simp [HP1.out]; omega)
  have HPB5 : Hid (tag3 pb = (B,2,0)) := Lib.hid (by rw [HG5.out.same pb hpbw]; exact HPB.out)
  clear hw5 hA5 hrp5 c1 o0
  have k0 : w5.cell? ⟨q,0,none⟩ = some (.slice (some ⟨pb,0,none⟩) N.places.length pcap) := cell_of HCE5.out 0
  have m2 : w5.cell? ⟨b,2,none⟩ = some (.int .i64 (p : Int)) := cell_of HM5.out 2
  refine start_ (n:=9) (S:=fun w' => w'.cell? ⟨q,0,none⟩ = some (.slice (some ⟨pb,0,none⟩) N.places.length pcap) ∧ w'.cell? ⟨b,2,none⟩ = some (.int .i64 (p : Int))) (ds := [8]) #[f_,f_,f_,f_,f_,f_,f_,f_,f_] (by kernel_rfl) rfl rfl ⟨k0,m2⟩ (fun hHeld => ?_)
  refine pure_ (i:=0) (N:=some 61) (v:=?_) (a':=?_) #[t_,f_,f_,f_,f_,f_,f_,f_,f_] rfl rfl (by kernel_rfl) (fun _ _ _ h => h) (Or.inl ⟨by rfl,?_⟩) ?_ ?_
  rotate_left;intro w';go_simp;with_reducible rfl;rotate_left;simp only [Act.put,sA_,sB_,sC_,i64_w,i32_w];rfl
  refine pure_ (i:=1) (N:=some 62) (v:=?_) (a':=?_) #[t_,t_,f_,f_,f_,f_,f_,f_,f_] rfl rfl (by kernel_rfl) (fun _ _ _ h => h) (Or.inl ⟨by rfl,?_⟩) ?_ ?_
  rotate_left;intro w';go_simp;with_reducible rfl;rotate_left;simp only [Act.put,sA_,sB_,sC_,i64_w,i32_w];rfl
  refine pure_ (i:=2) (N:=some 63) (v:=?_) (a':=?_) #[t_,t_,t_,f_,f_,f_,f_,f_,f_] rfl rfl (by kernel_rfl) (fun _ _ _ h => h) (Or.inl ⟨by rfl,?_⟩) ?_ ?_
  rotate_left;intro w';go_simp;with_reducible rfl;rotate_left;simp only [Act.put,sA_,sB_,sC_,i64_w,i32_w];rfl
  refine pure_ (i:=4) (N:=some 65) (v:=?_) (a':=?_) #[t_,t_,t_,f_,t_,f_,f_,f_,f_] rfl rfl (by kernel_rfl) (fun _ _ _ h => h) (Or.inl ⟨by rfl,?_⟩) ?_ ?_
  rotate_left;intro w';go_simp;with_reducible rfl;rotate_left;simp only [Act.put,sA_,sB_,sC_,i64_w,i32_w];rfl
  refine pure_ (i:=6) (N:=some 67) (v:=?_) (a':=?_) #[t_,t_,t_,f_,t_,f_,t_,f_,f_] rfl rfl (by kernel_rfl) (fun _ _ _ h => h) (Or.inl ⟨by rfl,?_⟩) ?_ ?_
  rotate_left;intro w';go_simp;with_reducible rfl;rotate_left;simp only [Act.put,sA_,sB_,sC_,i64_w,i32_w];rfl
  refine take_ (i:=3) (N:=some 64) (v:=?_) (a':=?_) #[t_,t_,t_,t_,t_,f_,t_,f_,f_] rfl rfl (by kernel_rfl) (fun _ _ _ h => h) (Or.inl ⟨by rfl,?_⟩) hHeld ?_ ?_
  rotate_left;rintro w' ⟨s0,s1⟩;go_simp;with_reducible rfl;rotate_left;simp only [Act.put,sA_,sB_,sC_,i64_w,i32_w];rfl
  refine take_ (i:=5) (N:=some 66) (v:=?_) (a':=?_) #[t_,t_,t_,t_,t_,t_,t_,f_,f_] rfl rfl (by kernel_rfl) (fun _ _ _ h => h) (Or.inl ⟨by rfl,?_⟩) hHeld ?_ ?_
  rotate_left;rintro w' ⟨s0,s1⟩;go_simp;with_reducible rfl;rotate_left;simp only [Act.put,sA_,sB_,sC_,i64_w,i32_w];rfl
  refine pure_ (i:=7) (N:=some 68) (v:=?_) (a':=?_) #[t_,t_,t_,t_,t_,t_,t_,t_,f_] rfl rfl (by kernel_rfl) (fun _ _ _ h => h) (Or.inl ⟨by rfl,?_⟩) ?_ ?_
  rotate_left;intro w';go_simp;with_reducible rfl;rotate_left;simp only [Act.put,sA_,sB_,sC_,i64_w,i32_w];rfl
  refine last_ (i:=8) (N:=none) #[t_,t_,t_,t_,t_,t_,t_,t_,t_] rfl rfl (by kernel_rfl) (by decide) (fun K hK => ?_)
  refine skip_ (w1:=?_) (by rfl) rfl ?_ ?_
  rotate_left
  · go_simp
    rfl
  refine hK.out _ _ ?_
  clear hK K
  refine done_ (by kernel_rfl) ?_
  clear hHeld k0 m2 y0 yz0
  obtain ⟨w6,hw6⟩ : ∃ x,x = (w5.setCell ⟨pb,p,none⟩ (.pointer (some ⟨p2,0,none⟩))).drew := ⟨_,rfl⟩
  rw [← hw6]
  have hS6 : Fr (fun t => t = (B,2,0)) tag3 tag3 w5 w6 := by rw [hw6]; exact (Fr.setCell hok5 (a := ⟨pb,p,none⟩) HPB5.out _).dr
  have hF6 : Fr (fun t => (t.1 = B + 1 + p ∨ t.1 = B + 33) ∨ t = (B,2,0)) tag tag3 w w6 := (HG5.out.mono (fun _ h => .inl h)).trans (hS6.mono (fun _ h => .inr h))
  have hk6 : Row tag3 (B,2,0) 79 1 w6 (.slice (some ⟨pb,0,none⟩) N.places.length pcap) N.places.length ((ps.set p p2).map rptr) := by
    rw [hw6,List.map_set]
    exact (Row.set_cell HRP5.out hpw _).drew
  have hN6 : RNRep tag3 B w6 q { N with places := N.places.set p { T with out := [],came := [] } } :=
    HN.out.set_place hpw hF6 (fun t h => by rcases h with (h | h) | h; exact .inl h; exact .inr (.inr (by omega)); exact .inr (.inl h)) h32 HCE.out HP1.out HP3.out hk6 ((HPL5.out.fr hS6 (fun r j e => by simp at e; omega)).congr rfl rfl rfl rfl)
  have HN6 := Lib.hid hN6
  have HF6 := Lib.hid hF6
  have HM6 := Lib.hid (hS6.heap HM5.out (t0_ne HTB3.out hB0))
  have HO6 := Lib.hid (hS6.heap HO5.out (t0_ne HTO.out hB0))
  have HPO6 := Lib.hid (HPO5.out.fr hS6 (by simp))
  have HCA6 := Lib.hid (HCA5.out.fr hS6 (by simp))
  have hok6 := hF6.dom
  obtain ⟨M,hM⟩ := tag_max tag3 w6.heap.size
  have HNO : Hid (∀ x,x < w6.heap.size → tag3 x ≠ (B + 33,3,M)) := Lib.hid (fun x hx e => by have := hM x hx; rw [e] at this; simp at this)
  clear hw6 hS6 hF6 hk6 hN6 hM
  go_upto_region 14 with fail
  go_wp2_with fail
  obtain ⟨pv6,fv6,cv6,hv6,yv6,dv6,hce6,_,h46,_⟩ := HN6.out.cells
  obtain ⟨F6,fcap6,rfl,x1,x2⟩ := h46.form
  unfold maxLen at x2
  have HCE6 := Lib.hid hce6
  have H46 : Hid (Row tag3 (B,4,0) 52 6 w6 (.slice F6 N.flight.length fcap6) N.flight.length (posts N.flight)) := Lib.hid h46
  have HQT : Hid (tag3 q = (B,1,0)) := Lib.hid HN6.out.tptr
  clear hce6 h46
  go_loopw [11,10] (fun jv lv wr => ∃ (n : Nat),n ≤ N.flight.length ∧ jv = .int .i64 n ∧ ∃ (tagr : Nat → Tag),Hid (Row tagr (B + 33,3,M) 52 6 wr lv ((N.flight.take n).eraseIdx i).length (posts ((N.flight.take n).eraseIdx i))) ∧ Hid (Fr (fun t => t = (B + 33,3,M)) tag3 tagr w6 wr)) (fun jv _ _ => N.flight.length - (intOf jv).toNat)
  case atStart => exact ⟨0,Nat.zero_le _,rfl,tag3,Lib.hid (by simp; exact Row.nil _ _ _ _ _),Lib.hid (Fr.refl hok6)⟩
  case round =>
    obtain ⟨n,hn,rfl,tagr,HL,HFr⟩ := hrel
    have hcer := HFr.out.heap HCE6.out (by rw [HQT.out]; simp)
    have k1 : wr.cell? ⟨q,1,none⟩ = some (.slice F6 N.flight.length fcap6) := cell_of hcer 1
    have hokr := HFr.out.dom
    have hqr := lt_of_heap hcer
    obtain ⟨LA,lcap,rfl,l1,l2⟩ := HL.out.form
    have hll : ((N.flight.take n).eraseIdx i).length ≤ n := Nat.le_trans (List.length_eraseIdx_le _ _) (by rw [List.length_take]; omega)
    by_cases hlt : n < N.flight.length
    · obtain ⟨⟨xk,xs,xd,xp,xi,xv⟩,hx⟩ : ∃ c,N.flight[n]? = some c := ⟨_,List.getElem?_eq_getElem hlt⟩
      obtain ⟨gb,rfl,hgbt,hgb,hge⟩ := Row.elem (enc := Post.cells) (H46.out.fr HFr.out (by simp)) (fun _ => rfl) (by decide) hx
      have e0 : wr.cell? ⟨gb,n * 6,none⟩ = some (.int .i64 xk) := hge 0 _ rfl
      have e1 : wr.cell? ⟨gb,n * 6 + 1,none⟩ = some (.int .i64 xs) := hge 1 _ rfl
      have e2 : wr.cell? ⟨gb,n * 6 + 2,none⟩ = some (.int .i64 xd) := hge 2 _ rfl
      have e3 : wr.cell? ⟨gb,n * 6 + 3,none⟩ = some (.int .i64 xp) := hge 3 _ rfl
      have e4 : wr.cell? ⟨gb,n * 6 + 4,none⟩ = some (.int .i64 xi) := hge 4 _ rfl
      have e5 : wr.cell? ⟨gb,n * 6 + 5,none⟩ = some (.int .i64 xv) := hge 5 _ rfl
      have j1 : (0 : Int) ≤ (n : Int) := by omega
      have j2 : (n : Int) < (N.flight.length : Int) := by omega
      have HEN := Lib.hid (erase_next (i:=i) hx)
      clear hx hge hgbt
      by_cases hni : n = i
      · subst hni
        have hne : ((n : Int) != (n : Int)) = false := by simp
        go_wp2_with fail
        go_roundw
        case rel => exact ⟨n + 1,by omega,by go_num,tagr,Lib.hid (by rw [HEN.out,if_pos rfl]; exact HL.out),HFr⟩
        case measure => simp [intOf]; omega
      · have hne : ((n : Int) != (i : Int)) = true := by rw [bne_iff_ne]; omega
        have hne2 : ((n : Int) == (i : Int)) = false := by rw [beq_eq_false_iff_ne]; omega
        have HNI := Lib.hid hni
        clear hni
        go_wp2_with (
          at_builtin
          refine append_list rfl (.tmp 81) (.tmp 89) 35 rfl (by rfl) (by rfl) (HL.out.alloc _) (hokr.alloc _) Tryz.underlying35 hinf hz0 hz1 hz2 rfl (by decide) [.int .i64 xk,.int .i64 xs,.int .i64 xd,.int .i64 xp,.int .i64 xi,.int .i64 xv] rfl (news_at (Go.Ng.heap_alloc_at _ _)) (by simp [Value.oneCell']) (by decide) (by unfold maxLen; omega) (by omega) ?_
          intro g6 cap6 w7 tag7 hrow hfr
          have HFR7 := Lib.hid hfr
          have HROW7 := Lib.hid hrow
          clear hrow hfr)
        go_roundw
        case rel =>
          refine ⟨n + 1,by omega,by go_num,tag7,Lib.hid ?_,Lib.hid ((HFr.out.al _).trans HFR7.out)⟩
          rw [HEN.out,if_neg HNI.out,List.length_append,posts_snoc]
          exact HROW7.out
        case measure => simp [intOf]; omega
    · have : n = N.flight.length := by omega
      subst this
      have hleft := HL.out
      rw [List.take_length] at hleft hll l1
      simp only [List.take_length]
      have HLF := Lib.hid hleft
      have hor := HFr.out.heap HO6.out (t0_ne HTO.out hR0)
      have HOR := Lib.hid hor
      have o0 : wr.cell? ⟨b8,0,none⟩ = some (.slice OA T.out.length ocap) := cell_of hor 0
      have HPR := Lib.hid ((HPO6.out.fr HFr.out (by simp)).rd (posts_one' _))
      have HCER := Lib.hid hcer
      clear hor hleft hcer HL
      go_upto_region 20 with (
        at_builtin
        refine append_any_list rfl (.tmp 92) (.tmp 94) 35 rfl (by rfl) (by rfl) HLF.out hokr Tryz.underlying35 hinf hz0 hz1 hz2 rfl (by decide) HPR.out (by unfold maxLen; omega) (by omega) ?_
        intro A9 cap9 w9 tag9 hrow hfr
        have hc9 := hfr.heap HCER.out (by rw [HFr.out.same q (lt_of_heap HCE6.out),HQT.out]; simp)
        have k9 : w9.cell? ⟨q,1,none⟩ = some (.slice F6 N.flight.length fcap6) := cell_of hc9 1
        have kz9 := free_of hc9 1
        have HCE9 := Lib.hid hc9
        have HFR9 := Lib.hid hfr
        have HROW9 := Lib.hid hrow
        clear hrow hfr hc9)
      clear k1 o0 k9 kz9
      obtain ⟨w10,hw10⟩ : ∃ x,x = w9.setCell ⟨q,1,none⟩ (.slice A9 ((N.flight.eraseIdx i).length + T.out.length) cap9) := ⟨_,rfl⟩
      rw [← hw10]
      have hTT : ((B + 33,3,M) : Tag).1 ≠ 0 := by simp
      obtain ⟨tagf,htf⟩ : ∃ x,x = retag tag9 (B + 33,3,M) (B,4,0) := ⟨_,rfl⟩
      have hf9 : Fr (fun _ => False) tag3 tagf w6 w9 := by
        rw [htf]
        exact (Fr.drop ((HFr.out.trans HFR9.out).mono (fun _ h => .inr h)) HNO.out).retag hTT HNO.out
      have hqf : tagf q = (B,1,0) := (hf9.same q (lt_of_heap HCE6.out)).trans HQT.out
      have hs10 : Fr (fun t => t = (B,1,0)) tagf tagf w9 w10 := by rw [hw10]; exact Fr.setCell hf9.dom (a := ⟨q,1,none⟩) hqf _
      have hf10 : Fr (fun t => t = (B,1,0)) tag3 tagf w6 w10 := hf9.up.trans hs10
      have hrow10 : Row tagf (B,4,0) 52 6 w10 (.slice A9 ((N.flight.eraseIdx i).length + T.out.length) cap9) (N.flight.eraseIdx i ++ T.out).length (posts (N.flight.eraseIdx i ++ T.out)) := by
        rw [List.length_append,posts_app,htf] 
        have := HROW9.out.retag (B,4,0)
        exact this.fr (by rw [htf] at hs10; exact hs10) (by simp)
      have hN10 : RNRep tagf B w10 q { ({ N with places := N.places.set p { T with out := [],came := [] } } : NetM) with flight := N.flight.eraseIdx i ++ T.out } := by
        refine HN6.out.set_flight hf10 (fun t h => .inl h) (by simp; exact h32) _ ?_
        intro pv' fv' cv' hv'' yv' dv' hx
        obtain ⟨rfl,rfl,rfl,rfl,rfl,rfl⟩ : pv' = pv6 ∧ fv' = _ ∧ cv' = cv6 ∧ hv'' = hv6 ∧ yv' = yv6 ∧ dv' = dv6 := by
          have := hx.symm.trans HCE6.out
          simpa using this
        refine ⟨.slice A9 ((N.flight.eraseIdx i).length + T.out.length) cap9,?_,hrow10⟩
        rw [hw10,Go.Ng.heap_setCell_same HCE9.out]; rfl
      have HN10 := Lib.hid hN10
      have HF10 := Lib.hid hf10
      have HO10 := Lib.hid (hf10.heap HO6.out (t0_ne HTO.out hB0))
      have HTF8 : Hid ((tagf b8).1 = 0) := Lib.hid (by rw [hf10.same b8 (lt_of_heap HO6.out)]; exact HTO.out)
      have HCA10 : Hid (Row tagf (B + 33,2,0) 61 3 w10 (.slice VA T.came.length vcap) T.came.length (cames T.came)) := Lib.hid (HCA6.out.fr hf10 (by simp))
      have hok10 := hf10.dom
      have HC10 : Hid (∀ c ∈ T.came,c.kind = 3 → ∃ j : Nat,c.item = j ∧ j < N.history.length) := Lib.hid (fun c hc => by have := HCIT.out c; rw [HTT.out] at this; exact this hc)
      clear hw10 hf9 hqf hs10 hf10 hrow10 hN10 htf
      have o1 : w10.cell? ⟨b8,1,none⟩ = some (.slice VA T.came.length vcap) := cell_of HO10.out 1
      have hRB : B + 33 ≠ B := by omega
      go_wp2_with (
        go_at_call 71
        refine (rnote_ok HN10.out hok10 hRB (by simp; exact h32) HCA10.out HC10.out (by omega) hd HH.out).mono ?_
        rintro e w11 ⟨rfl,tag11,hN11,hF11⟩
        have hO11 := hF11.heap HO10.out (by rw [HTF8.out]; omega)
        have o11 : w11.cell? ⟨b8,1,none⟩ = some (.slice VA T.came.length vcap) := cell_of hO11 1
        have HN11 := Lib.hid hN11
        have HF11 := Lib.hid hF11
        clear hN11 hF11 hO11)
      go_ret2
      refine ⟨_,rfl,tag11,?_,?_,?_⟩
      · have e : deliverN N i p P ⟨mk,ms,(p : Int),mp,mi,mv⟩ = T.came.foldl noteM { ({ N with places := N.places.set p { T with out := [],came := [] } } : NetM) with flight := N.flight.eraseIdx i ++ T.out } := by
          rw [deliverN,takeN,HTT.out]
        rw [e]
        exact HN11.out
      · rw [HTT.out]
        exact HCA10.out.fr HF11.out (by simp)
      · refine ((HF6.out.mono (fun t h => ?_)).trans (HF10.out.mono (fun t h => ?_))).trans (HF11.out.mono (fun t h => ?_))
        · rcases h with (h | h) | h
          · omega
          · omega
          · rw [h]; simp
        · rw [h]; simp
        · omega
end
end Go.Proofs.YtclkokkppgchfaaGreat
namespace Go.Ng
open Go Go.RowKit
section
variable {P : Program} {ops : Array Oper} {Q : Exit → Act → World → Prop} {tag : Nat → Tag} {t : Tag} {E sz : Nat} {w : World} {v : Value} {n : Nat} {ks : List Value}
theorem rappend_any_arm {oi : Oper} {N : Option Tmp} {a : Act} {K : Act → World → Prop} (hw : Region.wanted oi (yielded ops a.tmps) = true) (hN : oi.dst = N) (s x : Operand) (T : TypeId)
    (hop : oi.op = .call { callee := .builtin .append,args := #[s,x],argTypes := #[T,T] }) (hs : a.eval s = v) {xv : Value} (hx : a.eval x = xv)
    (h : Row tag t E sz w v n ks) (hok : TagOk tag w) {i : TypeInfo} {z : Value} {bytes : Nat} (hT : P.underlying T = some (.slice E)) (hi : P.info? E = some i) (hz : i.zero = some z)
    (hsize : i.size = sz) (hby : i.bytes = bytes) (hzs : z.cells.size = sz) (hsz : 0 < sz) {m : Nat} {news : List Value} (hxr : Rd sz w xv m news) (h63 : n + m ≤ maxLen) (hbytes : (n + m) * bytes ≤ 140737488355328)
    (hk : ∀ A cap w' tag',Row tag' t E sz w' (.slice A (n + m) cap) (n + m) (ks ++ news) → Fr (· = t) tag tag' w w' → K (a.put N (.slice A (n + m) cap)) w') :
    if Region.wanted oi (yielded ops a.tmps) = true then Oper.wp P oi a w K Q else K (a.put N undef) w := by
  rw [if_pos hw]
  subst hN
  obtain ⟨A,cap,w',tag',hr,h2,h3⟩ := h.append_any_run (P := P) hok T oi.type i z bytes hT hi hz hsize hby hzs hsz hxr h63 hbytes
  unfold Oper.wp execOp
  simp only [hop,resolve,invoke,builtin,Sem.run_bind,Sem.run_pure,Result.andThen_ok,List.map_toArray,List.map_cons,List.map_nil,hs,hx,hr]
  exact hk A cap w' tag' h2 h3
end
end Go.Ng
namespace Go.Proofs.YtclkokkppgchfaaGreat
open Go.RowKit Go.Ng Go.Proofs.YtclkokkppgchfaaGreatW.PrintLast
section
variable {S : Tag → Prop} {tag tag' : Nat → Tag} {w w' : World} {B q p : Nat} {N : NetM} {P P' : PlaceM}
theorem RNRep.add_claim (h : RNRep tag B w q N) (hf : Fr S tag tag' w w') (hS : ∀ t,S t → t = (B,1,0) ∨ t = (B,5,0) ∨ t = (B,7,0)) (h32 : N.places.length ≤ 32) (l : List Clm) (p : Int)
    {pv0 fv0 cv0 hv0 yv0 dv0 v cv1 hv1 : Value} {cvs : List Value} (hc : w.heap[q]? = some (.cells #[pv0,fv0,cv0,hv0,yv0,dv0] 78 (0,0))) (hcl : cvs.length = N.claims.length)
    (h6 : ∀ (i : Nat) (l : List Clm),N.claims[i]? = some l → ∃ v,cvs[i]? = some v ∧ Row tag (B,6,(i : Int)) 48 2 w v l.length (YtclkokkppgchfaaGreat.claims l))
    (k1 : w'.heap[q]? = some (.cells #[pv0,fv0,cv1,hv1,yv0,dv0] 78 (0,0)))
    (k5 : Row tag' (B,5,0) 37 1 w' cv1 (N.claims.length + 1) (cvs ++ [v])) (k6 : Row tag' (B,6,(N.claims.length : Int)) 48 2 w' v l.length (YtclkokkppgchfaaGreat.claims l)) (k7 : Row tag' (B,7,0) 3 1 w' hv1 (N.homes.length + 1) (ints (N.homes ++ [p]))) :
    RNRep tag' B w' q { N with claims := N.claims ++ [l],homes := N.homes ++ [p] } := by
  obtain ⟨pv,fv,cv,hv,yv,dv,h1,⟨ps,p1,p2,p3⟩,h4,_,h7,⟨yvs,h8,h9⟩,h10⟩ := h.cells
  obtain ⟨rfl,rfl,rfl,rfl,rfl,rfl⟩ : pv0 = pv ∧ fv0 = fv ∧ cv0 = cv ∧ hv0 = hv ∧ yv0 = yv ∧ dv0 = dv := by
    have := hc.symm.trans h1
    simpa using this
  have no : ∀ r i,r ≠ 1 → r ≠ 5 → r ≠ 7 → ¬ S (B,r,i) := fun r i a b c hs => by
    rcases hS _ hs with e | e | e <;> simp_all
  refine ⟨h.b0,(hf.tag_eq h1).trans h.tptr,pv0,fv0,cv1,hv1,yv0,dv0,k1,⟨ps,p1,p2.fr hf (no _ _ (by decide) (by decide) (by decide)),fun i x Q a b => ?_⟩,h4.fr hf (no _ _ (by decide) (by decide) (by decide)),⟨cvs ++ [v],by simpa using k5,fun i l' hl => ?_⟩,by simpa using k7,⟨yvs,h8.fr hf (no _ _ (by decide) (by decide) (by decide)),fun i l hl => ?_⟩,h10.fr hf (no _ _ (by decide) (by decide) (by decide))⟩
  · refine (p3 i x Q a b).fr hf (fun r j hs => ?_)
    rcases hS _ hs with e | e | e <;> simp at e <;> omega
  · have hl' : (N.claims ++ [l])[i]? = some l' := hl
    rw [List.getElem?_append] at hl'
    split at hl'
    · rename_i hi
      obtain ⟨u,hu,hr⟩ := h6 i l' hl'
      exact ⟨u,by rw [List.getElem?_append_left (by omega)]; exact hu,hr.fr hf (no _ _ (by decide) (by decide) (by decide))⟩
    · rename_i hi
      have hi' : i = N.claims.length := by
        by_cases e : i - N.claims.length = 0
        · omega
        · rw [List.getElem?_eq_none (by simp; omega)] at hl'; cases hl'
      subst hi'
      simp at hl'
      subst hl'
      exact ⟨v,by rw [List.getElem?_append_right (by omega),hcl]; simp,k6⟩
  · obtain ⟨v,hv,hr⟩ := h9 i l hl
    exact ⟨v,hv,hr.fr hf (no _ _ (by decide) (by decide) (by decide))⟩
theorem RNRep.place (h : RNRep tag B w q N) (hp : N.places[p]? = some P) : ∃ pb pcap pp,w.cell? ⟨q,0,none⟩ = some (.slice (some ⟨pb,0,none⟩) N.places.length pcap) ∧ N.places.length ≤ pcap ∧ pcap ≤ 9223372036854775807 ∧ w.cell? ⟨pb,p,none⟩ = some (.pointer (some ⟨pp,0,none⟩)) ∧ RPRep tag (B + 1 + p) w pp P := by
  obtain ⟨pv,fv,cv,hv,yv,dv,h1,⟨ps,p1,p2,p3⟩,_⟩ := h.cells
  have hpl := (List.getElem?_eq_some_iff.1 hp).1
  obtain ⟨PA,pcap,rfl,q3,q4⟩ := p2.form
  unfold maxLen at q4
  obtain ⟨pp,hpp⟩ : ∃ c,ps[p]? = some c := ⟨_,List.getElem?_eq_getElem (by omega)⟩
  obtain ⟨pb,rfl,_,_,hpc⟩ := p2.cell rfl (j:=p) (by simp [p1]; omega)
  exact ⟨pb,pcap,pp,cell_of h1 0,q3,q4,by rw [hpc]; simp [hpp,rptr],p3 p pp P hpp hp⟩
theorem rplaces_cell (h : RNRep tag B w q N) : ∃ PA pcap,w.cell? ⟨q,0,none⟩ = some (.slice PA N.places.length pcap) := by
  obtain ⟨pv,fv,cv,hv,yv,dv,h1,⟨ps,p1,p2,p3⟩,_⟩ := h.cells
  obtain ⟨PA,pcap,rfl,q3,q4⟩ := p2.form
  exact ⟨PA,pcap,cell_of h1 0⟩
theorem rnpropose_place (h : RNRep tag B w q N) (n : Int) (v : Value) (hn : n < 0 ∨ (N.places.length : Int) ≤ n) :
    Calls Tryz.prog 37 #[.pointer (some ⟨q,0,none⟩),.int .i64 n,v] w fun e w' => e = .returned (.tuple #[.int .i64 0,.int .i64 271]) ∧ w' = w := by
  obtain ⟨PA,pcap,c0⟩ := rplaces_cell h
  clear h
  by_cases h0 : n < 0
  · clear hn
    go_enter Tryz.func37,Tryz.ntmps37
    go_wp2_with fail
    go_ret2
    exact ⟨rfl,rfl⟩
  · have h1 : (N.places.length : Int) ≤ n := by omega
    clear hn
    go_enter Tryz.func37,Tryz.ntmps37
    go_wp2_with fail
    go_ret2
    exact ⟨rfl,rfl⟩
theorem rright_nil {k pp : Nat} (A : Option Addr) (cap : Nat) (w : World) : Calls Tryz.prog 64 #[.pointer (some ⟨pp,0,none⟩),.slice A 0 cap] w fun e w' => e = .returned (.bool false) ∧ w' = w := by
  go_enter Tryz.func64,Tryz.ntmps64
  go_wp2_with fail
  go_ret
  exact ⟨rfl,rfl⟩
theorem rnpropose_no {v : Value} (h : RNRep tag B w q N) (hok : TagOk tag w) (hp : p < N.places.length)
    (hr : ∀ pp w1,Fr (fun _ => False) tag tag w w1 → RPRep tag (B + 1 + p) w1 pp N.places[p] → Calls Tryz.prog 64 #[.pointer (some ⟨pp,0,none⟩),v] w1 fun e w' => e = .returned (.bool false) ∧ Fr (fun _ => False) tag tag w1 w') :
    Calls Tryz.prog 37 #[.pointer (some ⟨q,0,none⟩),.int .i64 (p : Int),v] w fun e w' => e = .returned (.tuple #[.int .i64 0,.int .i64 270]) ∧ Fr (fun _ => False) tag tag w w' := by
  obtain ⟨pb,pcap,pp,c0,q1,q2,u0,hP⟩ := h.place (List.getElem?_eq_getElem hp)
  have HC := Lib.hid (hr pp w (Fr.refl hok) hP)
  have i1 : (0 : Int) ≤ (p : Int) := by omega
  have i2 : (p : Int) < (N.places.length : Int) := by omega
  have i3 : decide ((p : Int) < 0) = false := decide_eq_false (by omega)
  clear h hr hP
  go_enter Tryz.func37,Tryz.ntmps37
  go_wp2_with (go_at_call 64; refine HC.out.mono ?_; rintro e w1 ⟨rfl,hF⟩; have HF := Lib.hid hF; clear hF)
  go_ret2
  exact ⟨rfl,HF.out⟩
theorem rpropose_val {k pp R : Nat} (n : Int) (l : List Clm) {v : Value} (h : RPRep tag k w pp P) (hok : TagOk tag w) (hR : R ≠ 0) (hRk : R ≠ k) (hr : Rd 2 w v l.length (claims l))
    (hcl : claimedB P.sites.length l = true) (hn1 : 0 ≤ n) (hn2 : n ≤ 2147483647) (hf : find P.props n = none) (hlen : P.props.length < 4000) (ho : P.out = []) (hc : P.came = []) (T : PlaceM) (hT : proposeM P n l 0 = T) :
    Calls Tryz.prog 65 #[.pointer (some ⟨pp,0,none⟩),.int .i64 n,v] w (RTook R k pp tag w T) := hT ▸ rpropose_ok n l h hok hR hRk hr hcl hn1 hn2 hf hlen ho hc
set_option maxRecDepth 100000 in
set_option maxHeartbeats 6400000 in
theorem rnpropose_ok (l : List Clm) {v : Value} (h : RNRep tag B w q N) (hok : TagOk tag w) (hp : N.places[p]? = some P) (h32 : N.places.length ≤ 32) (hr : Rd 2 w v l.length (claims l)) (he : Ext tag w v)
    (hcl : claimedB P.sites.length l = true) (hf : find P.props N.claims.length = none) (hlen : P.props.length < 4000) (hPo : P.out = []) (hPc : P.came = [])
    (hnp : N.claims.length ≤ 1000) (hhl : N.homes.length ≤ 1000) (hfl : N.flight.length ≤ 19000) (hll : l.length ≤ 1000) (hout : (proposeM P N.claims.length l 0).out.length ≤ 1000) :
    Calls Tryz.prog 37 #[.pointer (some ⟨q,0,none⟩),.int .i64 (p : Int),v] w fun e w' => e = .returned (.tuple #[.int .i64 (N.claims.length : Int),.int .i64 0]) ∧ ∃ tag',RNRep tag' B w' q (proposeN N p P l 0) ∧
      Fr (fun t => B ≤ t.1 ∧ t.1 ≤ B + 33) tag tag' w w' := by
  obtain ⟨i49,hi49,hp0,hp1,hp2⟩ := info_parts Tryz.info52
  obtain ⟨i0,hinf,hz0,hz1,hz2⟩ := info_parts Tryz.info37
  obtain ⟨j0,hjnf,hy0,hy1,hy2⟩ := info_parts Tryz.info3
  obtain ⟨j1,hj69,hx0,hx1,hx2⟩ := info_parts Tryz.info48
  have hB0 := h.b0
  have hpw := (List.getElem?_eq_some_iff.1 hp).1
  obtain ⟨T,hT⟩ : ∃ T,proposeM P N.claims.length l 0 = T := ⟨_,rfl⟩
  obtain ⟨VA,vcap,rfl,qv1,qv2⟩ := hr.slice
  obtain ⟨pv,fv,xv,hv',yv,dv,hce,⟨ps,p1,p2,p3⟩,h4,⟨cvs,h5,h6⟩,h7,_⟩ := h.cells
  obtain ⟨PA,pcap,rfl,q1,q2⟩ := p2.form
  obtain ⟨FA,fcap,rfl,q5,q6⟩ := h4.form
  obtain ⟨CA,ccap,rfl,q7,q8⟩ := h5.form
  obtain ⟨HA,hcap,rfl,q9,q10⟩ := h7.form
  unfold maxLen at q2 q6 q8 q10 qv2
  obtain ⟨pp,hpp⟩ : ∃ c,ps[p]? = some c := ⟨_,List.getElem?_eq_getElem (by omega)⟩
  obtain ⟨pb,rfl,_,_,hpc⟩ := p2.cell rfl (j:=p) (by simp [p1]; omega)
  have c0 : w.cell? ⟨q,0,none⟩ = some (.slice (some ⟨pb,0,none⟩) N.places.length pcap) := cell_of hce 0
  have c1 : w.cell? ⟨q,1,none⟩ = some (.slice FA N.flight.length fcap) := cell_of hce 1
  have c2 : w.cell? ⟨q,2,none⟩ = some (.slice CA N.claims.length ccap) := cell_of hce 2
  have e0 : w.cell? ⟨pb,p,none⟩ = some (.pointer (some ⟨pp,0,none⟩)) := by rw [hpc]; simp [hpp,rptr]
  have i1 : (0 : Int) ≤ (p : Int) := by omega
  have i2 : (p : Int) < (N.places.length : Int) := by omega
  have i3 : decide ((p : Int) < 0) = false := decide_eq_false (by omega)
  have i4 : (N.claims.length : Int) < 4000 := by omega
  have i5 : (N.flight.length : Int) < 20000 := by omega
  have i6 : decide ((4000 : Int) ≤ (N.claims.length : Int)) = false := decide_eq_false (by omega)
  have i7 : decide ((N.places.length : Int) ≤ (p : Int)) = false := decide_eq_false (by omega)
  have i8 : decide ((20000 : Int) ≤ (N.flight.length : Int)) = false := decide_eq_false (by omega)
  have hcvl : cvs.length = N.claims.length := by have := h5.len; omega
  have hqw := lt_of_heap hce
  have HN := Lib.hid h
  have HCE := Lib.hid hce
  have HRP := Lib.hid (p3 p pp P hpp hp)
  have HP1 := Lib.hid p1
  have HP2 := Lib.hid p2
  have HP3 := Lib.hid p3
  have HPP := Lib.hid hpp
  have HR := Lib.hid hr
  have HE := Lib.hid he
  have HCL := Lib.hid hcl
  have HF := Lib.hid hf
  have H5 := Lib.hid h5
  have H6 := Lib.hid h6
  have H7 := Lib.hid h7
  have HPO := Lib.hid hPo
  have HPC := Lib.hid hPc
  have HCV := Lib.hid hcvl
  have HTT := Lib.hid hT
  have hTo : T.out.length ≤ 1000 := by rw [← hT]; exact hout
  have hR0 : B + 33 ≠ 0 := by omega
  have hRk : B + 33 ≠ B + 1 + p := by omega
  clear h hce p1 p2 p3 h4 h5 h6 h7 hpc hp hr he hcl hf hPo hPc hcvl hT hout hpp
  go_enter Tryz.func37,Tryz.ntmps37
  go_upto_region 10 with (first
    | (go_at_call 64
       refine (rright_val l true HCL.out HRP.out HR.out hok).mono ?_
       rintro e w1 ⟨rfl,hF1⟩
       have d0 := hF1.cellF c0
       have d1 := hF1.cellF c1
       have d2 := hF1.cellF c2
       have de := hF1.cellF e0
       have HF1 := Lib.hid hF1
       clear hF1)
    | (go_at_call 65
       refine (rpropose_val (N.claims.length : Int) l (HRP.out.frF HF1.out) HF1.out.dom hR0 hRk (HR.out.frF HF1.out) HCL.out (by omega) (by omega) HF.out hlen HPO.out HPC.out T HTT.out).mono ?_
       rintro e w2 ⟨ov,cv,tag2,rfl,h1,h2,h3,h4⟩
       obtain ⟨OA,ocap,rfl,o1,o2⟩ := h1.form
       obtain ⟨VA2,vcap2,rfl,v1,v2⟩ := h2.form
       have K1 := Lib.hid h1
       have K3 := Lib.hid h3
       have K4 := Lib.hid (HF1.out.up.trans h4)
       clear h1 h2 h3 h4 d0 d1 d2 de))
  clear c0 c1 c2 e0
  obtain ⟨w4,hw4⟩ : ∃ x,x = w2.alloc (.cells #[.slice OA T.out.length ocap,.slice VA2 T.came.length vcap2] 130) := ⟨_,rfl⟩
  rw [← hw4]
  obtain ⟨b8,hb8⟩ : ∃ x,x = w2.heap.size := ⟨_,rfl⟩
  rw [← hb8]
  have hA4 : Fr (fun _ => False) tag2 tag2 w2 w4 := by rw [hw4]; exact Fr.alloc K4.out.dom _
  have HO4 : Hid (w4.heap[b8]? = some (.cells #[.slice OA T.out.length ocap,.slice VA2 T.came.length vcap2] 130 (0,0))) := Lib.hid (by rw [hw4,hb8]; exact heap_alloc_at _ _)
  have HTO : Hid ((tag2 b8).1 = 0) := Lib.hid (by rw [hb8]; exact K4.out.dom.new)
  have hG4 : Fr (fun t => t.1 = B + 1 + p ∨ t.1 = B + 33) tag tag2 w w4 := K4.out.trans hA4.up
  have HG4 := Lib.hid hG4
  have HPO4 := Lib.hid (K1.out.fr hA4 (fun x => x))
  have hok4 := hA4.dom
  have hnB : ∀ r j,¬ (((B,r,j) : Tag).1 = B + 1 + p ∨ ((B,r,j) : Tag).1 = B + 33) := fun r j => by simp; omega
  have hps : (ps.set p pp).map rptr = ps.map rptr := by
    obtain ⟨hx1,hx2⟩ := List.getElem?_eq_some_iff.1 HPP.out
    rw [← hx2,List.set_getElem_self]
  have hN4 : RNRep tag2 B w4 q { N with places := N.places.set p { T with out := [],came := [] } } :=
    HN.out.set_place (p2 := pp) hpw hG4 (fun t h => by rcases h with h | h; exact .inl h; exact .inr (.inr (by omega))) h32 HCE.out HP1.out HP3.out (by rw [hps]; exact HP2.out.fr hG4 (hnB _ _)) ((K3.out.frF hA4).congr rfl rfl rfl rfl)
  have HN4 := Lib.hid hN4
  have hce4 := hG4.heap HCE.out (by rw [HN.out.tptr]; exact hnB _ _)
  have HCE4 := Lib.hid hce4
  have HQT4 := Lib.hid hN4.tptr
  have H54 := Lib.hid (H5.out.fr hG4 (hnB _ _))
  have H64 : Hid (∀ (i : Nat) (l : List Clm),N.claims[i]? = some l → ∃ v,cvs[i]? = some v ∧ Row tag2 (B,6,(i : Int)) 48 2 w4 v l.length (YtclkokkppgchfaaGreat.claims l)) := Lib.hid (fun i l hl => by
    obtain ⟨v,hv,hr⟩ := H6.out i l hl
    exact ⟨v,hv,hr.fr hG4 (hnB _ _)⟩)
  have H74 := Lib.hid (H7.out.fr hG4 (hnB _ _))
  have HR4 := Lib.hid (HR.out.ext HE.out hG4 (fun t h => by rcases h with h | h <;> omega))
  have c2 : w4.cell? ⟨q,2,none⟩ = some (.slice CA N.claims.length ccap) := cell_of hce4 2
  clear hw4 hb8 hA4 hG4 hps hN4 hce4
  go_wp2_with fail
  refine start_ (n:=13) (S:=fun w' => w'.cell? ⟨q,2,none⟩ = some (.slice CA N.claims.length ccap)) (ds := [12]) #[f_,f_,f_,f_,f_,f_,f_,f_,f_,f_,f_,f_,f_] (by kernel_rfl) rfl rfl (c2) (fun hHeld => ?_)
  refine pure_ (i:=0) (N:=some 74) (v:=?_) (a':=?_) #[t_,f_,f_,f_,f_,f_,f_,f_,f_,f_,f_,f_,f_] rfl rfl (by kernel_rfl) (fun _ _ _ h => h) (Or.inl ⟨by rfl,?_⟩) ?_ ?_
  rotate_left;intro w';go_simp;with_reducible rfl;rotate_left;simp only [Act.put,sA_,sB_,sC_,i64_w,i32_w];rfl
  refine pure_ (i:=1) (N:=some 75) (v:=?_) (a':=?_) #[t_,t_,f_,f_,f_,f_,f_,f_,f_,f_,f_,f_,f_] rfl rfl (by kernel_rfl) (fun _ _ _ h => h) (Or.inl ⟨by rfl,?_⟩) ?_ ?_
  rotate_left;intro w';go_simp;with_reducible rfl;rotate_left;simp only [Act.put,sA_,sB_,sC_,i64_w,i32_w];rfl
  refine pure_ (i:=2) (N:=some 76) (v:=?_) (a':=?_) #[t_,t_,t_,f_,f_,f_,f_,f_,f_,f_,f_,f_,f_] rfl rfl (by kernel_rfl) (fun _ _ _ h => h) (Or.inl ⟨by rfl,?_⟩) ?_ ?_
  rotate_left;intro w';go_simp;with_reducible rfl;rotate_left;simp only [Act.put,sA_,sB_,sC_,i64_w,i32_w];rfl
  refine pure_ (i:=3) (N:=some 77) (v:=?_) (a':=?_) #[t_,t_,t_,t_,f_,f_,f_,f_,f_,f_,f_,f_,f_] rfl rfl (by kernel_rfl) (fun _ _ _ h => h) (Or.inl ⟨by rfl,?_⟩) ?_ ?_
  rotate_left;intro w';go_simp;with_reducible rfl;rotate_left;simp only [Act.put,sA_,sB_,sC_,i64_w,i32_w];rfl
  refine pure_ (i:=5) (N:=some 79) (v:=?_) (a':=?_) #[t_,t_,t_,t_,f_,t_,f_,f_,f_,f_,f_,f_,f_] rfl rfl (by kernel_rfl) (fun _ _ _ h => h) (Or.inl ⟨by rfl,?_⟩) ?_ ?_
  rotate_left;intro w';go_simp;with_reducible rfl;rotate_left;simp only [Act.put,sA_,sB_,sC_,i64_w,i32_w];rfl
  refine pure_ (i:=6) (N:=some 80) (v:=?_) (a':=?_) #[t_,t_,t_,t_,f_,t_,t_,f_,f_,f_,f_,f_,f_] rfl rfl (by kernel_rfl) (fun _ _ _ h => h) (Or.inl ⟨by rfl,?_⟩) ?_ ?_
  rotate_left;intro w';go_simp;with_reducible rfl;rotate_left;simp only [Act.put,sA_,sB_,sC_,i64_w,i32_w];rfl
  refine take_ (i:=4) (N:=some 78) (v:=?_) (a':=?_) #[t_,t_,t_,t_,t_,t_,t_,f_,f_,f_,f_,f_,f_] rfl rfl (by kernel_rfl) (fun _ _ _ h => h) (Or.inl ⟨by rfl,?_⟩) hHeld ?_ ?_
  rotate_left
  · intro w' s0
    go_simp
    with_reducible rfl
  rotate_left
  · simp only [Act.put,sA_,sB_,sC_,i64_w,i32_w];rfl
  refine one_ (i:=7) (N:=some 81) #[t_,t_,t_,t_,t_,t_,t_,t_,f_,f_,f_,f_,f_] rfl rfl (by kernel_rfl) (by decide) (fun K hK => ?_)
  refine append_none_any_arm (B,6,(N.claims.length : Int)) (by rfl) rfl (.tmp 79) (.tmp 80) 37 rfl (by rfl) (by rfl) (TagOk.drew hok4) Tryz.underlying37 hj69 hx0 hx1 hx2 rfl (by decide) HR4.out.drew (by unfold maxLen; omega) (by omega) ?_
  intro A5 cap5 w5 tag5 hrow hfr _
  have HFR5 := Lib.hid hfr
  have HROW5 := Lib.hid hrow
  clear hrow hfr
  refine hK.out _ _ ((HFR5.out.cellF hHeld)) (fun hHeld => ?_)
  clear hK K
  refine norm_ (a':=?_) ?_ ?_
  rotate_left
  · show Act.put _ (some 81) _ = _
    simp only [Act.put,sA_,sB_,sC_,i64_w,i32_w]
    rfl
  refine one_ (i:=8) (N:=some 82) #[t_,t_,t_,t_,t_,t_,t_,t_,t_,f_,f_,f_,f_] rfl rfl (by kernel_rfl) (by decide) (fun K hK => ?_)
  refine value_ (w1:=?_) (v:=?_) (by rfl) rfl ?_ ?_
  rotate_left 2
  · go_simp
    constructor
    · rfl
    · rfl
  refine hK.out _ _ ((ca hHeld _)) (fun hHeld => ?_)
  clear hK K
  refine norm_ (a':=?_) ?_ ?_
  rotate_left
  · show Act.put _ (some 82) _ = _
    simp only [Act.put,sA_,sB_,sC_,i64_w,i32_w]
    rfl
  refine one_ (i:=9) (N:=some 83) #[t_,t_,t_,t_,t_,t_,t_,t_,t_,t_,f_,f_,f_] rfl rfl (by kernel_rfl) (by decide) (fun K hK => ?_)
  refine append_arm (by rfl) rfl (.tmp 78) (.tmp 82) 70 rfl (by rfl) (by rfl) ((H54.out.drew.fr HFR5.out (fun x => x)).alloc _) (HFR5.out.dom.alloc _) Tryz.underlying70 hinf hz0 hz1 hz2 rfl (by decide) [.slice A5 l.length cap5] rfl (news_at (heap_alloc_at _ _)) (by simp [Value.oneCell']) (by decide) (by unfold maxLen; omega) (by omega) ?_
  intro g6 cap6 w6 tag6 hrow hfr
  have hce6 := hfr.heap (heap_alloc_lt (HFR5.out.heap (show w4.drew.heap[q]? = _ from HCE4.out) (fun x => x)) _) (by rw [HFR5.out.same q (lt_of_heap (show w4.drew.heap[q]? = _ from HCE4.out)),HQT4.out]; simp)
  have d2 : w6.cell? ⟨q,2,none⟩ = some (.slice CA N.claims.length ccap) := cell_of hce6 2
  have dz2 := free_of hce6 2
  have HCE6 := Lib.hid hce6
  have HFR6 := Lib.hid hfr
  have HROW6 := Lib.hid hrow
  clear hrow hfr hce6
  refine hK.out _ _ (d2) (fun hHeld => ?_)
  clear hK K
  refine norm_ (a':=?_) ?_ ?_
  rotate_left
  · show Act.put _ (some 83) _ = _
    simp only [Act.put,sA_,sB_,sC_,i64_w,i32_w]
    rfl
  refine pure_ (i:=10) (N:=some 84) (v:=?_) (a':=?_) #[t_,t_,t_,t_,t_,t_,t_,t_,t_,t_,t_,f_,f_] rfl rfl (by kernel_rfl) (fun _ _ _ h => h) (Or.inl ⟨by rfl,?_⟩) ?_ ?_
  rotate_left;intro w';go_simp;with_reducible rfl;rotate_left;simp only [Act.put,sA_,sB_,sC_,i64_w,i32_w];rfl
  refine pure_ (i:=11) (N:=some 85) (v:=?_) (a':=?_) #[t_,t_,t_,t_,t_,t_,t_,t_,t_,t_,t_,t_,f_] rfl rfl (by kernel_rfl) (fun _ _ _ h => h) (Or.inl ⟨by rfl,?_⟩) ?_ ?_
  rotate_left;intro w';go_simp;with_reducible rfl;rotate_left;simp only [Act.put,sA_,sB_,sC_,i64_w,i32_w];rfl
  refine last_ (i:=12) (N:=none) #[t_,t_,t_,t_,t_,t_,t_,t_,t_,t_,t_,t_,t_] rfl rfl (by kernel_rfl) (by decide) (fun K hK => ?_)
  refine skip_ (w1:=?_) (by rfl) rfl ?_ ?_
  rotate_left
  · go_simp
    rfl
  refine hK.out _ _ ?_
  clear hK K
  refine done_ (by kernel_rfl) ?_
  clear hHeld c2 d2 dz2
  go_upto_region 14 with fail
  obtain ⟨w7,hw7⟩ : ∃ x,x = w6.setCell ⟨q,2,none⟩ (.slice (some ⟨g6,0,none⟩) (N.claims.length + 1) cap6) := ⟨_,rfl⟩
  rw [← hw7]
  have hq5 : tag5 q = (B,1,0) := (HFR5.out.same q (lt_of_heap (show w4.drew.heap[q]? = _ from HCE4.out))).trans HQT4.out
  have hq6 : tag6 q = (B,1,0) := (HFR6.out.same q (lt_of_heap (heap_alloc_lt (HFR5.out.heap (show w4.drew.heap[q]? = _ from HCE4.out) (fun x => x)) _))).trans hq5
  have hs7 : Fr (fun t => t = (B,1,0)) tag6 tag6 w6 w7 := by rw [hw7]; exact Fr.setCell HFR6.out.dom (a := ⟨q,2,none⟩) hq6 _
  have hg7 : Fr (fun t => t = (B,1,0) ∨ t = (B,5,0)) tag2 tag6 w4 w7 := ((((Fr.refl hok4).dr.trans HFR5.out.up).al _).trans (HFR6.out.mono (fun _ h => .inr h))).trans (hs7.mono (fun _ h => .inl h))
  have hr5 : Row tag6 (B,6,(N.claims.length : Int)) 48 2 w7 (.slice A5 l.length cap5) l.length (claims l) := ((HROW5.out.alloc _).fr HFR6.out (by simp)).fr hs7 (by simp)
  have hr6 : Row tag6 (B,5,0) 37 1 w7 (.slice (some ⟨g6,0,none⟩) (N.claims.length + 1) cap6) (N.claims.length + 1) (cvs ++ [.slice A5 l.length cap5]) := HROW6.out.fr hs7 (by simp)
  have hce7 : w7.heap[q]? = some (.cells #[.slice (some ⟨pb,0,none⟩) N.places.length pcap,.slice FA N.flight.length fcap,.slice (some ⟨g6,0,none⟩) (N.claims.length + 1) cap6,.slice HA N.homes.length hcap,yv,dv] 78 (0,0)) := by rw [hw7,Go.Ng.heap_setCell_same HCE6.out]; rfl
  have HG7 := Lib.hid hg7
  have HR5 := Lib.hid hr5
  have HR6 := Lib.hid hr6
  have HCE7 := Lib.hid hce7
  have HQ6 := Lib.hid hq6
  have hok7 := hg7.dom
  have H77 := Lib.hid (H74.out.fr hg7 (by simp))
  have c3 : w7.cell? ⟨q,3,none⟩ = some (.slice HA N.homes.length hcap) := cell_of hce7 3
  have hqw7 := lt_of_heap hce7
  clear hw7 hq5 hq6 hs7 hg7 hr5 hr6 hce7
  go_upto_region 15 with (
    at_builtin
    refine append_list rfl (.tmp 90) (.tmp 92) 22 rfl (by rfl) (by rfl) (H77.out.alloc _) (hok7.alloc _) Tryz.underlying22 hjnf hy0 hy1 hy2 rfl (by decide) [.int .i64 (p : Int)] rfl (news_at (heap_alloc_at _ _)) (by simp [Value.oneCell']) (by decide) (by unfold maxLen; omega) (by omega) ?_
    intro g8 cap8 w8 tag8 hrow hfr
    have hce8 := hfr.heap (heap_alloc_lt HCE7.out _) (by rw [HQ6.out]; simp)
    have d3 : w8.cell? ⟨q,3,none⟩ = some (.slice HA N.homes.length hcap) := cell_of hce8 3
    have dz3 := free_of hce8 3
    have HCE8 := Lib.hid hce8
    have HFR8 := Lib.hid hfr
    have HROW8 := Lib.hid hrow
    clear hrow hfr hce8)
  clear c3 d3 dz3 hqw7
  obtain ⟨w9,hw9⟩ : ∃ x,x = w8.setCell ⟨q,3,none⟩ (.slice (some ⟨g8,0,none⟩) (N.homes.length + 1) cap8) := ⟨_,rfl⟩
  rw [← hw9]
  have hq8 : tag8 q = (B,1,0) := (HFR8.out.same q (lt_of_heap (heap_alloc_lt HCE7.out _))).trans HQ6.out
  have hs9 : Fr (fun t => t = (B,1,0)) tag8 tag8 w8 w9 := by rw [hw9]; exact Fr.setCell HFR8.out.dom (a := ⟨q,3,none⟩) hq8 _
  have hg79 : Fr (fun t => t = (B,1,0) ∨ t = (B,7,0)) tag6 tag8 w7 w9 := (((Fr.refl hok7).al _).trans (HFR8.out.mono (fun _ h => .inr h))).trans (hs9.mono (fun _ h => .inl h))
  have hg9 : Fr (fun t => t = (B,1,0) ∨ t = (B,5,0) ∨ t = (B,7,0)) tag2 tag8 w4 w9 := (HG7.out.mono (fun t h => by rcases h with h | h; exact .inl h; exact .inr (.inl h))).trans (hg79.mono (fun t h => by rcases h with h | h; exact .inl h; exact .inr (.inr h)))
  have hce9 : w9.heap[q]? = some (.cells #[.slice (some ⟨pb,0,none⟩) N.places.length pcap,.slice FA N.flight.length fcap,.slice (some ⟨g6,0,none⟩) (N.claims.length + 1) cap6,.slice (some ⟨g8,0,none⟩) (N.homes.length + 1) cap8,yv,dv] 78 (0,0)) := by rw [hw9,Go.Ng.heap_setCell_same HCE8.out]; rfl
  have hN9 : RNRep tag8 B w9 q { ({ N with places := N.places.set p { T with out := [],came := [] } } : NetM) with claims := N.claims ++ [l],homes := N.homes ++ [(p : Int)] } :=
    HN4.out.add_claim hg9 (fun t h => h) (by simp; exact h32) l p HCE4.out HCV.out H64.out hce9 (HR6.out.fr hg79 (by simp)) (HR5.out.fr hg79 (by simp)) (by rw [ints_snoc]; exact HROW8.out.fr hs9 (by simp))
  have HN9 := Lib.hid hN9
  have HG9 := Lib.hid hg9
  have HCE9 := Lib.hid hce9
  have HQ9 := Lib.hid hN9.tptr
  have hok9 := hg9.dom
  have HO9 := Lib.hid (hg9.heap HO4.out (by rintro (e | e | e) <;> (have := HTO.out; rw [e] at this; exact hB0 this)))
  have HPO9 := Lib.hid (HPO4.out.fr hg9 (by simp))
  have HPR9 := Lib.hid (HPO9.out.rd (posts_one' _))
  obtain ⟨pv9,fv9,cv9,hv9,yv9,dv9,hx9,_,h49,_⟩ := hN9.cells
  have hfv : fv9 = .slice FA N.flight.length fcap := by
    have := hx9.symm.trans hce9
    simp at this
    exact this.2.1
  subst hfv
  have H49 : Hid (Row tag8 (B,4,0) 52 6 w9 (.slice FA N.flight.length fcap) N.flight.length (posts N.flight)) := Lib.hid h49
  have c1 : w9.cell? ⟨q,1,none⟩ = some (.slice FA N.flight.length fcap) := cell_of hce9 1
  have o0 : w9.cell? ⟨b8,0,none⟩ = some (.slice OA T.out.length ocap) := cell_of HO9.out 0
  clear hw9 hq8 hs9 hg79 hg9 hce9 hN9 hx9 h49
  refine start_ (n:=11) (S:=fun w' => w'.cell? ⟨q,1,none⟩ = some (.slice FA N.flight.length fcap) ∧ w'.cell? ⟨b8,0,none⟩ = some (.slice OA T.out.length ocap)) (ds := [7,10]) #[f_,f_,f_,f_,f_,f_,f_,f_,f_,f_,f_] (by kernel_rfl) rfl rfl ⟨c1,o0⟩ (fun hHeld => ?_)
  refine pure_ (i:=0) (N:=some 96) (v:=?_) (a':=?_) #[t_,f_,f_,f_,f_,f_,f_,f_,f_,f_,f_] rfl rfl (by kernel_rfl) (fun _ _ _ h => h) (Or.inl ⟨by rfl,?_⟩) ?_ ?_
  rotate_left;intro w';go_simp;with_reducible rfl;rotate_left;simp only [Act.put,sA_,sB_,sC_,i64_w,i32_w];rfl
  refine pure_ (i:=1) (N:=some 97) (v:=?_) (a':=?_) #[t_,t_,f_,f_,f_,f_,f_,f_,f_,f_,f_] rfl rfl (by kernel_rfl) (fun _ _ _ h => h) (Or.inl ⟨by rfl,?_⟩) ?_ ?_
  rotate_left;intro w';go_simp;with_reducible rfl;rotate_left;simp only [Act.put,sA_,sB_,sC_,i64_w,i32_w];rfl
  refine pure_ (i:=2) (N:=some 98) (v:=?_) (a':=?_) #[t_,t_,t_,f_,f_,f_,f_,f_,f_,f_,f_] rfl rfl (by kernel_rfl) (fun _ _ _ h => h) (Or.inl ⟨by rfl,?_⟩) ?_ ?_
  rotate_left;intro w';go_simp;with_reducible rfl;rotate_left;simp only [Act.put,sA_,sB_,sC_,i64_w,i32_w];rfl
  refine pure_ (i:=3) (N:=some 99) (v:=?_) (a':=?_) #[t_,t_,t_,t_,f_,f_,f_,f_,f_,f_,f_] rfl rfl (by kernel_rfl) (fun _ _ _ h => h) (Or.inl ⟨by rfl,?_⟩) ?_ ?_
  rotate_left;intro w';go_simp;with_reducible rfl;rotate_left;simp only [Act.put,sA_,sB_,sC_,i64_w,i32_w];rfl
  refine pure_ (i:=5) (N:=some 101) (v:=?_) (a':=?_) #[t_,t_,t_,t_,f_,t_,f_,f_,f_,f_,f_] rfl rfl (by kernel_rfl) (fun _ _ _ h => h) (Or.inl ⟨by rfl,?_⟩) ?_ ?_
  rotate_left;intro w';go_simp;with_reducible rfl;rotate_left;simp only [Act.put,sA_,sB_,sC_,i64_w,i32_w];rfl
  refine take_ (i:=4) (N:=some 100) (v:=?_) (a':=?_) #[t_,t_,t_,t_,t_,t_,f_,f_,f_,f_,f_] rfl rfl (by kernel_rfl) (fun _ _ _ h => h) (Or.inl ⟨by rfl,?_⟩) hHeld ?_ ?_
  rotate_left;rintro w' ⟨s0,s1⟩;go_simp;with_reducible rfl;rotate_left;simp only [Act.put,sA_,sB_,sC_,i64_w,i32_w];rfl
  refine take_ (i:=6) (N:=some 102) (v:=?_) (a':=?_) #[t_,t_,t_,t_,t_,t_,t_,f_,f_,f_,f_] rfl rfl (by kernel_rfl) (fun _ _ _ h => h) (Or.inl ⟨by rfl,?_⟩) hHeld ?_ ?_
  rotate_left;rintro w' ⟨s0,s1⟩;go_simp;with_reducible rfl;rotate_left;simp only [Act.put,sA_,sB_,sC_,i64_w,i32_w];rfl
  refine last_ (i:=7) (N:=some 103) #[t_,t_,t_,t_,t_,t_,t_,t_,f_,f_,f_] rfl rfl (by kernel_rfl) (by decide) (fun K hK => ?_)
  refine rappend_any_arm (by rfl) rfl (.tmp 100) (.tmp 102) 35 rfl (by rfl) (by rfl) H49.out.drew (TagOk.drew hok9) Tryz.underlying35 hi49 hp0 hp1 hp2 rfl (by decide) HPR9.out.drew (by unfold maxLen; omega) (by omega) ?_
  intro A10 cap10 w10 tag10 hrow hfr
  have hce10 := hfr.heap (show w9.drew.heap[q]? = _ from HCE9.out) (by rw [HQ9.out]; simp)
  have d1 : w10.cell? ⟨q,1,none⟩ = some (.slice FA N.flight.length fcap) := cell_of hce10 1
  have dz1 := free_of hce10 1
  have HCE10 := Lib.hid hce10
  have HFR10 := Lib.hid hfr
  have HROW10 := Lib.hid hrow
  clear hrow hfr hce10
  refine hK.out _ _ ?_
  clear hK K
  refine norm_ (a':=?_) ?_ ?_
  rotate_left
  · show Act.put _ (some 103) _ = _
    simp only [Act.put,sA_,sB_,sC_,i64_w,i32_w]
    rfl
  refine pure_ (i:=8) (N:=some 104) (v:=?_) (a':=?_) #[t_,t_,t_,t_,t_,t_,t_,t_,t_,f_,f_] rfl rfl (by kernel_rfl) (fun _ _ _ h => h) (Or.inl ⟨by rfl,?_⟩) ?_ ?_
  rotate_left;intro w';go_simp;with_reducible rfl;rotate_left;simp only [Act.put,sA_,sB_,sC_,i64_w,i32_w];rfl
  refine pure_ (i:=9) (N:=some 105) (v:=?_) (a':=?_) #[t_,t_,t_,t_,t_,t_,t_,t_,t_,t_,f_] rfl rfl (by kernel_rfl) (fun _ _ _ h => h) (Or.inl ⟨by rfl,?_⟩) ?_ ?_
  rotate_left;intro w';go_simp;with_reducible rfl;rotate_left;simp only [Act.put,sA_,sB_,sC_,i64_w,i32_w];rfl
  refine last_ (i:=10) (N:=none) #[t_,t_,t_,t_,t_,t_,t_,t_,t_,t_,t_] rfl rfl (by kernel_rfl) (by decide) (fun K hK => ?_)
  refine skip_ (w1:=?_) (by rfl) rfl ?_ ?_
  rotate_left
  · go_simp
    rfl
  refine hK.out _ _ ?_
  clear hK K
  refine done_ (by kernel_rfl) ?_
  clear hHeld
  go_wp2_with fail
  go_ret2
  have hq10 : tag10 q = (B,1,0) := (HFR10.out.same q (lt_of_heap (show w9.drew.heap[q]? = _ from HCE9.out))).trans HQ9.out
  have hs11 : Fr (fun t => t = (B,1,0)) tag10 tag10 w10 (w10.setCell ⟨q,1,none⟩ (.slice A10 (N.flight.length + T.out.length) cap10)) := Fr.setCell HFR10.out.dom (a := ⟨q,1,none⟩) hq10 _
  have hf11 : Fr (fun t => t = (B,1,0) ∨ t = (B,4,0)) tag8 tag10 w9 (w10.setCell ⟨q,1,none⟩ (.slice A10 (N.flight.length + T.out.length) cap10)) := ((Fr.refl hok9).dr.trans (HFR10.out.mono (fun _ h => .inr h))).trans (hs11.mono (fun _ h => .inl h))
  refine ⟨rfl,tag10,?_,((HG4.out.mono (fun t h => ?_)).trans (HG9.out.mono (fun t h => ?_))).trans (hf11.mono (fun t h => ?_))⟩
  · have e : proposeN N p P l 0 = { ({ ({ N with places := N.places.set p { T with out := [],came := [] } } : NetM) with claims := N.claims ++ [l],homes := N.homes ++ [(p : Int)] } : NetM) with flight := N.flight ++ T.out } := by
      rw [proposeN,takeN,HTT.out]; rfl
    rw [e]
    refine HN9.out.set_flight hf11 (fun t h => by rcases h with h | h; exact .inl h; exact .inr (.inl h)) (by simp; exact h32) _ ?_
    intro pv' fv' cv' hv'' yv' dv' hx
    obtain ⟨rfl,rfl,rfl,rfl,rfl,rfl⟩ : pv' = _ ∧ fv' = _ ∧ cv' = _ ∧ hv'' = _ ∧ yv' = yv ∧ dv' = dv := by
      have := hx.symm.trans HCE9.out
      simpa using this
    refine ⟨.slice A10 (N.flight.length + T.out.length) cap10,?_,?_⟩
    · rw [Go.Ng.heap_setCell_same HCE10.out]; rfl
    · rw [List.length_append,posts_app]
      exact HROW10.out.fr hs11 (by simp)
  · omega
  · rcases h with h | h | h <;> rw [h] <;> simp
  · rcases h with h | h <;> rw [h] <;> simp
end
end Go.Proofs.YtclkokkppgchfaaGreat
