/- A part of the proof: texts of this session, joined. -/
import Derived.Test.YtjojbhkgdkcaoaaGreatBehOrderOwn9
import Derived.Test.YtjojbhkgdkcaoaaGreatShort
set_option linter.unusedSimpArgs false
set_option linter.unusedVariables false
set_option maxHeartbeats 6400000
set_option maxRecDepth 100000
namespace Go.Proofs.YtjojbhkgdkcaoaaGreat
open Go Go.RowKit Go.Bh Go.Shelf Go.Proofs.YtjojbhkgdkcaoaaGreatW.PrintLast
theorem order228_ok (x y : Int) (w : World) : Calls Tryz.prog 228 #[.int .i64 x,.int .i64 y] w fun e w' => e = .returned (.int .i64 (cmpI x y)) ∧ w' = w := by
 rcases Int.lt_trichotomy x y with h | rfl | h
 ·go_enter Tryz.func228,Tryz.ntmps228
  go_wp2_with fail
  go_ret
  exact ⟨by simp [cmpI,h],rfl⟩
 ·go_enter Tryz.func228,Tryz.ntmps228
  go_wp2_with fail
  go_ret
  exact ⟨by simp [cmpI],rfl⟩
 ·have h' : ¬ x < y := by omega
  go_enter Tryz.func228,Tryz.ntmps228
  go_wp2_with fail
  go_ret
  exact ⟨by simp [cmpI,h,h'],rfl⟩
theorem rcmpT_ok : ∀ (x y : Tm) (w : World) (u v : Value),Ts w x.l u → Ts w y.l v →
  Calls Tryz.prog 199 #[.agg #[.int .i64 x.k,.int .i64 x.n,u],.agg #[.int .i64 y.k,.int .i64 y.n,v]] w fun e w' => e = .returned (.int .i64 (cmpT x y)) ∧ Below w.heap.size w w' := by
 refine Tm.ind fun k n l ih => ?_
 rintro ⟨k',n',l'⟩ w u v hu hv
 dsimp only [Tm.k,Tm.n,Tm.l] at hu hv ⊢
 obtain ⟨A,c,rfl,_,q1⟩ := VAt.slice hu
 obtain ⟨B,d,rfl,_,q2⟩ := VAt.slice hv
 unfold maxLen at q1 q2
 obtain ⟨res,hres⟩ : ∃ z,z = cmpT (.mk k n l) (.mk k' n' l') := ⟨_,rfl⟩
 rw [← hres]
 rw [cmpT,cmpTs_eq] at hres
 obtain ⟨r1,hr1⟩ : ∃ z,z = cmpI k k' := ⟨_,rfl⟩
 obtain ⟨r2,hr2⟩ : ∃ z,z = cmpI n n' := ⟨_,rfl⟩
 obtain ⟨r3,hr3⟩ : ∃ z,z = cmpI l.length l'.length := ⟨_,rfl⟩
 rw [← hr1,← hr2,← hr3] at hres
 have HL3 : Hid (r3 = 0 → l.length = l'.length) := Lib.hid fun h => by have := (cmpI_le (l.length : Int) l'.length).2; rw [← hr3,h] at this; have := this.1 rfl; omega
 have HQ1 := Lib.hid (order228_ok k k')
 have HQ2 := Lib.hid (order228_ok n n')
 have HQ3 := Lib.hid (order228_ok l.length l'.length)
 rw [← hr1] at HQ1
 rw [← hr2] at HQ2
 rw [← hr3] at HQ3
 obtain ⟨W1,hW1⟩ : ∃ z,z = (w.alloc (.cells #[.int .i64 k,.int .i64 n,.slice A l.length c] 62)).alloc (.cells #[.int .i64 k',.int .i64 n',.slice B l'.length d] 62) := ⟨_,rfl⟩
 have hb1 : Below w.heap.size w W1 := by rw [hW1]; exact ((Below.refl _ w).alloc (Nat.le_refl _) _).alloc (by simp) _
 have a0 : W1.cell? ⟨w.heap.size,0,none⟩ = some (.int .i64 k) := by rw [hW1]; go_simp
 have a1 : W1.cell? ⟨w.heap.size,1,none⟩ = some (.int .i64 n) := by rw [hW1]; go_simp
 have a2 : W1.cell? ⟨w.heap.size,2,none⟩ = some (.slice A l.length c) := by rw [hW1]; go_simp
 have b0 : W1.cell? ⟨w.heap.size + 1,0,none⟩ = some (.int .i64 k') := by rw [hW1]; go_simp
 have b1 : W1.cell? ⟨w.heap.size + 1,1,none⟩ = some (.int .i64 n') := by rw [hW1]; go_simp
 have b2 : W1.cell? ⟨w.heap.size + 1,2,none⟩ = some (.slice B l'.length d) := by rw [hW1]; go_simp
 have hz1 : W1.heap.size = w.heap.size + 2 := by rw [hW1]; simp
 have HB1 := Lib.hid hb1
 have HW1 := Lib.hid hW1
 have HU := Lib.hid (TsP.below hu hb1)
 have HV := Lib.hid (TsP.below hv hb1)
 have HRES := Lib.hid hres
 have IH := Lib.hid ih
 clear hr1 hr2 hr3 hu hv hb1 hW1 hres ih
 go_enter Tryz.func199,Tryz.ntmps199
 go_upto_region 1 with fail
 rw [← HW1.out]
 go_wp2_with fail
 refine (HQ1.out _).mono ?_
 rintro e w2 ⟨rfl,rfl⟩
 dsimp only
 go_upto_if 13 with fail
 go_cut [5] (fun s wx => s = .int .i64 (orI [r1,r2]) ∧ wx = w2)
 case first =>
  by_cases h1 : r1 = 0
  ·subst h1
   go_wp2_with fail
   refine (HQ2.out _).mono ?_
   rintro e w3 ⟨rfl,rfl⟩
   dsimp only
   go_wp2_with fail
   go_meet
   case rel => exact ⟨by simp [orI],rfl⟩
  ·have h1' : (r1 == 0) = false := by simpa using h1
   go_wp2_with fail
   go_meet
   case rel => exact ⟨by simp [orI,h1],rfl⟩
 case rest =>
 obtain ⟨rfl,rfl⟩ := hcut
 obtain ⟨W3,rfl⟩ : ∃ z,z = wc := ⟨_,rfl⟩
 obtain ⟨s2,hs2⟩ : ∃ z,z = orI [r1,r2] := ⟨_,rfl⟩
 rw [← hs2]
 have HS2 := Lib.hid hs2
 clear hs2
 obtain ⟨c0,hc0⟩ : ∃ z,z = orI [r1,r2,r3] := ⟨_,rfl⟩
 have HC0 : Hid (c0 = if s2 = 0 then r3 else s2) := Lib.hid (by rw [hc0,HS2.out]; unfold orI orI orI orI; by_cases h1 : r1 = 0 <;> by_cases h2 : r2 = 0 <;> by_cases h3 : r3 = 0 <;> simp [h1,h2,h3])
 have HR0 : Hid (res = if c0 = 0 then lexC cmpT l l' else c0) := Lib.hid (by rw [hc0]; exact HRES.out)
 have HLL : Hid (c0 = 0 → l.length = l'.length) := Lib.hid (fun h => HL3.out (by have := HC0.out; rw [h] at this; split at this <;> omega))
 clear hc0
 go_upto_if 20 with fail
 go_cut [5] (fun s wx => s = .int .i64 c0 ∧ wx = W3)
 case first =>
  by_cases h1 : s2 = 0
  ·subst h1
   go_wp2_with fail
   refine (HQ3.out _).mono ?_
   rintro e w3 ⟨rfl,rfl⟩
   dsimp only
   go_wp2_with fail
   go_meet
   case rel => exact ⟨by rw [HC0.out]; simp,rfl⟩
  ·have h1' : (s2 == 0) = false := by simpa using h1
   go_wp2_with fail
   go_meet
   case rel => exact ⟨by rw [HC0.out,if_neg h1],rfl⟩
 case rest =>
 obtain ⟨rfl,rfl⟩ := hcut
 obtain ⟨W4,rfl⟩ : ∃ z,z = wc := ⟨_,rfl⟩
 go_wp2_with fail
 go_loopw [6,5] (fun i s wr => ∃ m : Nat,m ≤ l.length ∧ i = .int .i64 m ∧ ∃ cv : Int,s = .int .i64 cv ∧ Hid (res = if cv = 0 then lexC cmpT (l.drop m) (l'.drop m) else cv) ∧ Hid (cv = 0 → l.length = l'.length) ∧ Hid (Below W4.heap.size W4 wr)) (fun i _ _ => l.length - (intOf i).toNat)
 case atStart => exact ⟨0,Nat.zero_le _,rfl,c0,rfl,HR0,HLL,Lib.hid (Below.refl _ _)⟩
 case round =>
  obtain ⟨m,hm,rfl,cv,rfl,HE,HC,HB⟩ := hrel
  have a2 := Below.cellOf HB.out a2
  have b2 := Below.cellOf HB.out b2
  by_cases hlt : m < l.length
  ·by_cases hcv : cv = 0
   ·subst hcv
    have hll := HC.out rfl
    have HLn := Lib.hid hll
    obtain ⟨⟨tk,tn,tl⟩,hx⟩ : ∃ z,l[m]? = some z := ⟨_,List.getElem?_eq_getElem hlt⟩
    obtain ⟨⟨uk,un,ul⟩,hy⟩ : ∃ z,l'[m]? = some z := ⟨_,List.getElem?_eq_getElem (by omega)⟩
    have HST := Lib.hid (lexC_step (c := cmpT) hx hy)
    obtain ⟨be,oe,A2,c2,rfl,_,e0,e1,e2,he2,_⟩ := TsP.get HU.out hx
    obtain ⟨bg,og,B2,d2,rfl,_,g0,g1,g2,hg2,_⟩ := TsP.get HV.out hy
    have e0 := Below.cellOf HB.out e0
    have e1 := Below.cellOf HB.out e1
    have e2 := Below.cellOf HB.out e2
    have g0 := Below.cellOf HB.out g0
    have g1 := Below.cellOf HB.out g1
    have g2 := Below.cellOf HB.out g2
    have i1 : (0 : Int) ≤ (m : Int) := by omega
    have i2 : (m : Int) < (l.length : Int) := by omega
    have i3 : (m : Int) < (l'.length : Int) := by omega
    have hbd : Below W4.heap.size W4 wr.drew := HB.out.drew
    have HI := Lib.hid (IH.out _ (List.mem_of_getElem? hx) (.mk uk un ul) wr.drew _ _ (TsP.below he2 hbd) (TsP.below hg2 hbd))
    dsimp only [Tm.k,Tm.n,Tm.l] at HI
    obtain ⟨r,hr⟩ : ∃ z,z = cmpT (.mk tk tn tl) (.mk uk un ul) := ⟨_,rfl⟩
    rw [← hr] at HI HST
    clear hx hy he2 hg2 hr hll
    go_wp2_with fail
    refine start_ (n:=12) (S:=fun w' => w'.cell? ⟨w.heap.size,2,none⟩ = some (.slice (some ⟨be,oe,none⟩) l.length c) ∧ w'.cell? ⟨w.heap.size + 1,2,none⟩ = some (.slice (some ⟨bg,og,none⟩) l'.length d) ∧ w'.cell? ⟨be,oe + m * 3,none⟩ = some (.int .i64 tk) ∧ w'.cell? ⟨be,oe + m * 3 + 1,none⟩ = some (.int .i64 tn) ∧ w'.cell? ⟨be,oe + m * 3 + 2,none⟩ = some (.slice A2 tl.length c2) ∧ w'.cell? ⟨bg,og + m * 3,none⟩ = some (.int .i64 uk) ∧ w'.cell? ⟨bg,og + m * 3 + 1,none⟩ = some (.int .i64 un) ∧ w'.cell? ⟨bg,og + m * 3 + 2,none⟩ = some (.slice B2 ul.length d2)) (ds := [10]) #[f_,f_,f_,f_,f_,f_,f_,f_,f_,f_,f_,f_] (by kernel_rfl) rfl rfl ⟨a2,b2,e0,e1,e2,g0,g1,g2⟩ (fun hHeld => ?_)
    refine pv_ (i:=0) (N:=some 39) (v:=?_) (a':=?_) rfl rfl (by kernel_rfl) (fun _ _ _ h => h) (Or.inl ⟨by rfl,?_⟩) ?_ ?_
    rotate_left;intro w';go_simp;with_reducible rfl;rotate_left;simp only [Act.put,sA_,sB_,sC_,i64_w,i32_w];rfl
    refine pv_ (i:=2) (N:=some 41) (v:=?_) (a':=?_) rfl rfl (by kernel_rfl) (fun _ _ _ h => h) (Or.inl ⟨by rfl,?_⟩) ?_ ?_
    rotate_left;intro w';go_simp;with_reducible rfl;rotate_left;simp only [Act.put,sA_,sB_,sC_,i64_w,i32_w];rfl
    refine pv_ (i:=5) (N:=some 44) (v:=?_) (a':=?_) rfl rfl (by kernel_rfl) (fun _ _ _ h => h) (Or.inl ⟨by rfl,?_⟩) ?_ ?_
    rotate_left;intro w';go_simp;with_reducible rfl;rotate_left;simp only [Act.put,sA_,sB_,sC_,i64_w,i32_w];rfl
    refine pv_ (i:=7) (N:=some 46) (v:=?_) (a':=?_) rfl rfl (by kernel_rfl) (fun _ _ _ h => h) (Or.inl ⟨by rfl,?_⟩) ?_ ?_
    rotate_left;intro w';go_simp;with_reducible rfl;rotate_left;simp only [Act.put,sA_,sB_,sC_,i64_w,i32_w];rfl
    refine tv_ (i:=1) (N:=some 40) (v:=?_) (a':=?_) rfl rfl (by kernel_rfl) (fun _ _ _ h => h) (Or.inl ⟨by rfl,?_⟩) hHeld ?_ ?_
    rotate_left;rintro w' ⟨s0,s1,s2,s3,s4,s5,s6,s7⟩;go_simp;with_reducible rfl;rotate_left;simp only [Act.put,sA_,sB_,sC_,i64_w,i32_w];rfl
    refine pv_ (i:=3) (N:=some 42) (v:=?_) (a':=?_) rfl rfl (by kernel_rfl) (fun _ _ _ h => h) (Or.inl ⟨by rfl,?_⟩) ?_ ?_
    rotate_left;intro w';go_simp;with_reducible rfl;rotate_left;simp only [Act.put,sA_,sB_,sC_,i64_w,i32_w];rfl
    refine tv_ (i:=4) (N:=some 43) (v:=?_) (a':=?_) rfl rfl (by kernel_rfl) (fun _ _ _ h => h) (Or.inl ⟨by rfl,?_⟩) hHeld ?_ ?_
    rotate_left;rintro w' ⟨s0,s1,s2,s3,s4,s5,s6,s7⟩;go_simp;with_reducible rfl;rotate_left;simp only [Act.put,sA_,sB_,sC_,i64_w,i32_w];rfl
    refine tv_ (i:=6) (N:=some 45) (v:=?_) (a':=?_) rfl rfl (by kernel_rfl) (fun _ _ _ h => h) (Or.inl ⟨by rfl,?_⟩) hHeld ?_ ?_
    rotate_left;rintro w' ⟨s0,s1,s2,s3,s4,s5,s6,s7⟩;go_simp;with_reducible rfl;rotate_left;simp only [Act.put,sA_,sB_,sC_,i64_w,i32_w];rfl
    refine pv_ (i:=8) (N:=some 47) (v:=?_) (a':=?_) rfl rfl (by kernel_rfl) (fun _ _ _ h => h) (Or.inl ⟨by rfl,?_⟩) ?_ ?_
    rotate_left;intro w';go_simp;with_reducible rfl;rotate_left;simp only [Act.put,sA_,sB_,sC_,i64_w,i32_w];rfl
    refine tv_ (i:=9) (N:=some 48) (v:=?_) (a':=?_) rfl rfl (by kernel_rfl) (fun _ _ _ h => h) (Or.inl ⟨by rfl,?_⟩) hHeld ?_ ?_
    rotate_left;rintro w' ⟨s0,s1,s2,s3,s4,s5,s6,s7⟩;go_simp;with_reducible rfl;rotate_left;simp only [Act.put,sA_,sB_,sC_,i64_w,i32_w];rfl
    refine last_ (i:=10) (N:=some 49) #[t_,t_,t_,t_,t_,t_,t_,t_,t_,t_,t_,f_] rfl rfl (by kernel_rfl) (by decide) (fun K hK => ?_)
    refine goes_ Tryz.func199 (by kernel_rfl) rfl #[.agg #[.int .i64 tk,.int .i64 tn,.slice A2 tl.length c2],.agg #[.int .i64 uk,.int .i64 un,.slice B2 ul.length d2]] (by rfl) rfl rfl (by simp only [List.map_toArray,List.map_cons,List.map_nil]; rfl) ?_
    refine HI.out.mono ?_
    rintro e w5 ⟨rfl,hb5⟩
    have HB5 := Lib.hid (hbd.trans (hb5.mono HB.out.size))
    refine ⟨_,rfl,?_⟩
    refine hK.out _ _ ?_
    clear hK K
    refine norm_ (a':=?_) ?_ ?_
    rotate_left
    ·show Act.put _ (some 49) _ = _
     simp only [Act.put,sA_,sB_,sC_,i64_w,i32_w]
     rfl
    refine pv_ (i:=11) (N:=some 5) (v:=?_) (a':=?_) rfl rfl (by kernel_rfl) (fun _ _ _ h => h) (Or.inl ⟨by rfl,?_⟩) ?_ ?_
    rotate_left;intro w';go_simp;with_reducible rfl;rotate_left;simp only [Act.put,sA_,sB_,sC_,i64_w,i32_w];rfl
    refine done_ (by kernel_rfl) ?_
    clear hHeld
    go_wp2_with fail
    go_roundw
    case rel => exact ⟨m + 1,by omega,by go_num,r,rfl,Lib.hid (by rw [HE.out,HST.out]; simp),Lib.hid (fun _ => HLn.out),HB5⟩
    case measure => simp [intOf]; omega
   ·have hcv' : (cv == 0) = false := by simpa using hcv
    have i2 : (m : Int) < (l.length : Int) := by omega
    go_wp2_with fail
    go_ret
    exact ⟨by rw [HE.out,if_neg hcv]; rfl,HB1.out.trans (HB.out.mono (by omega))⟩
  ·obtain rfl : m = l.length := by omega
   have i2 : (l.length : Int) ≤ (l.length : Int) := by omega
   go_wp2_with fail
   go_ret
   refine ⟨?_,HB1.out.trans (HB.out.mono (by omega))⟩
   rw [HE.out]
   by_cases hcv : cv = 0
   ·have hl := HC.out hcv
    rw [if_pos hcv,hl,List.drop_length,← hl,List.drop_length,hcv]
    simp [lexC]
   ·rw [if_neg hcv]; rfl
end Go.Proofs.YtjojbhkgdkcaoaaGreat
namespace Go.Bh
theorem lexC_fin {α : Type} {c : α → α → Int} {a b : List α} {n : Nat} (h1 : n ≤ a.length) (h2 : n ≤ b.length) (h : n = a.length ∨ n = b.length) : lexC c (a.drop n) (b.drop n) = cmpI a.length b.length := by
 unfold cmpI
 rcases Nat.lt_trichotomy a.length b.length with hl | hl | hl
 ·obtain rfl : n = a.length := by omega
  rw [lexC_end (by omega),if_pos hl,if_pos (by omega)]
 ·obtain rfl : n = a.length := by omega
  rw [lexC_end (by omega),if_neg (by omega),if_neg (by omega),if_neg (by omega)]
 ·obtain rfl : n = b.length := by omega
  rw [lexC_more hl (Nat.le_refl _),if_neg (by omega),if_pos (by omega)]
end Go.Bh
namespace Go.Proofs.YtjojbhkgdkcaoaaGreat
open Go Go.RowKit Go.Bh Go.Shelf Go.Proofs.YtjojbhkgdkcaoaaGreatW.PrintLast
theorem r132_ok (a b : List Tm) (w : World) (va vb : Value) (ha : TsP (fun _ => True) w a va) (hb : TsP (fun _ => True) w b vb) :
  Calls Tryz.prog 132 #[va,vb] w fun e w' => e = .returned (.int .i64 (lexC cmpT a b)) ∧ Below w.heap.size w w' := by
 obtain ⟨A,acap,rfl,_,q1⟩ := VAt.slice ha
 obtain ⟨B,bcap,rfl,_,q2⟩ := VAt.slice hb
 unfold maxLen at q1 q2
 have HA := Lib.hid ha
 have HB := Lib.hid hb
 clear ha hb
 go_enter Tryz.func132,Tryz.ntmps132
 go_wp2_with fail
 go_loopw [5] (fun i wr => ∃ n : Nat,n ≤ a.length ∧ i = .int .i64 n ∧ n ≤ b.length ∧ Hid (lexC cmpT a b = lexC cmpT (a.drop n) (b.drop n)) ∧ Hid (Below w.heap.size w wr)) (fun i _ => a.length - (intOf i).toNat)
 case atStart => exact ⟨0,Nat.zero_le _,rfl,Nat.zero_le _,Lib.hid (by simp),Lib.hid (Below.refl _ _)⟩
 case round =>
  obtain ⟨n,hn,rfl,hnb,HE,HBr⟩ := hrel
  by_cases hlt : n < a.length
  ·by_cases hbl : n < b.length
   ·obtain ⟨xx,hx⟩ : ∃ z,a[n]? = some z := ⟨_,List.getElem?_eq_getElem hlt⟩
    obtain ⟨yy,hy⟩ : ∃ z,b[n]? = some z := ⟨_,List.getElem?_eq_getElem hbl⟩
    have HST := Lib.hid (lexC_step (c := cmpT) hx hy)
    have i1 : (0 : Int) ≤ (n : Int) := by omega
    have i2 : (n : Int) < (a.length : Int) := by omega
    have i3 : (n : Int) < (b.length : Int) := by omega
    obtain ⟨r,hr⟩ : ∃ z,z = cmpT xx yy := ⟨_,rfl⟩
    obtain ⟨x0,x1,x2⟩ := xx
    obtain ⟨y0,y1,y2⟩ := yy
    obtain ⟨be,oe,A2,c2,rfl,_,e0,e1,e2,he2,_⟩ := TsP.get HA.out hx
    obtain ⟨bg,og,B2,d2,rfl,_,g0,g1,g2,hg2,_⟩ := TsP.get HB.out hy
    have e0 := Below.cellOf HBr.out e0
    have e1 := Below.cellOf HBr.out e1
    have e2 := Below.cellOf HBr.out e2
    have g0 := Below.cellOf HBr.out g0
    have g1 := Below.cellOf HBr.out g1
    have g2 := Below.cellOf HBr.out g2
    have hbd : Below w.heap.size w wr.drew := HBr.out.drew
    have HI := Lib.hid (rcmpT_ok (.mk x0 x1 x2) (.mk y0 y1 y2) wr.drew _ _ (TsP.below he2 hbd) (TsP.below hg2 hbd))
    dsimp only [Tm.k,Tm.n,Tm.l] at HI
    rw [← hr] at HI HST
    clear hx hy he2 hg2 hr
    go_upto_region 4 with fail
    refine start_ (n:=10) (S:=fun w' => w'.cell? ⟨be,oe + n * 3,none⟩ = some (.int .i64 x0) ∧ w'.cell? ⟨be,oe + n * 3 + 1,none⟩ = some (.int .i64 x1) ∧ w'.cell? ⟨be,oe + n * 3 + 2,none⟩ = some (.slice A2 x2.length c2) ∧ w'.cell? ⟨bg,og + n * 3,none⟩ = some (.int .i64 y0) ∧ w'.cell? ⟨bg,og + n * 3 + 1,none⟩ = some (.int .i64 y1) ∧ w'.cell? ⟨bg,og + n * 3 + 2,none⟩ = some (.slice B2 y2.length d2)) (ds := [8]) #[f_,f_,f_,f_,f_,f_,f_,f_,f_,f_] (by kernel_rfl) rfl rfl ⟨e0,e1,e2,g0,g1,g2⟩ (fun hHeld => ?_)
    refine pv_ (i:=0) (N:=some 19) (v:=?_) (a':=?_) rfl rfl (by kernel_rfl) (fun _ _ _ h => h) (Or.inl ⟨by rfl,?_⟩) ?_ ?_
    rotate_left;intro w';go_simp;with_reducible rfl;rotate_left;simp only [Act.put,sA_,sB_,sC_,i64_w,i32_w];rfl
    refine pv_ (i:=1) (N:=some 20) (v:=?_) (a':=?_) rfl rfl (by kernel_rfl) (fun _ _ _ h => h) (Or.inl ⟨by rfl,?_⟩) ?_ ?_
    rotate_left;intro w';go_simp;with_reducible rfl;rotate_left;simp only [Act.put,sA_,sB_,sC_,i64_w,i32_w];rfl
    refine pv_ (i:=2) (N:=some 21) (v:=?_) (a':=?_) rfl rfl (by kernel_rfl) (fun _ _ _ h => h) (Or.inl ⟨by rfl,?_⟩) ?_ ?_
    rotate_left;intro w';go_simp;with_reducible rfl;rotate_left;simp only [Act.put,sA_,sB_,sC_,i64_w,i32_w];rfl
    refine pv_ (i:=4) (N:=some 23) (v:=?_) (a':=?_) rfl rfl (by kernel_rfl) (fun _ _ _ h => h) (Or.inl ⟨by rfl,?_⟩) ?_ ?_
    rotate_left;intro w';go_simp;with_reducible rfl;rotate_left;simp only [Act.put,sA_,sB_,sC_,i64_w,i32_w];rfl
    refine pv_ (i:=5) (N:=some 24) (v:=?_) (a':=?_) rfl rfl (by kernel_rfl) (fun _ _ _ h => h) (Or.inl ⟨by rfl,?_⟩) ?_ ?_
    rotate_left;intro w';go_simp;with_reducible rfl;rotate_left;simp only [Act.put,sA_,sB_,sC_,i64_w,i32_w];rfl
    refine pv_ (i:=6) (N:=some 25) (v:=?_) (a':=?_) rfl rfl (by kernel_rfl) (fun _ _ _ h => h) (Or.inl ⟨by rfl,?_⟩) ?_ ?_
    rotate_left;intro w';go_simp;with_reducible rfl;rotate_left;simp only [Act.put,sA_,sB_,sC_,i64_w,i32_w];rfl
    refine tv_ (i:=3) (N:=some 22) (v:=?_) (a':=?_) rfl rfl (by kernel_rfl) (fun _ _ _ h => h) (Or.inl ⟨by rfl,?_⟩) hHeld ?_ ?_
    rotate_left;rintro w' ⟨s0,s1,s2,s3,s4,s5⟩;go_simp;with_reducible rfl;rotate_left;simp only [Act.put,sA_,sB_,sC_,i64_w,i32_w];rfl
    refine tv_ (i:=7) (N:=some 26) (v:=?_) (a':=?_) rfl rfl (by kernel_rfl) (fun _ _ _ h => h) (Or.inl ⟨by rfl,?_⟩) hHeld ?_ ?_
    rotate_left;rintro w' ⟨s0,s1,s2,s3,s4,s5⟩;go_simp;with_reducible rfl;rotate_left;simp only [Act.put,sA_,sB_,sC_,i64_w,i32_w];rfl
    refine last_ (i:=8) (N:=some 27) #[t_,t_,t_,t_,t_,t_,t_,t_,t_,f_] rfl rfl (by kernel_rfl) (by decide) (fun K hK => ?_)
    refine goes_ Tryz.func199 (by kernel_rfl) rfl #[.agg #[.int .i64 x0,.int .i64 x1,.slice A2 x2.length c2],.agg #[.int .i64 y0,.int .i64 y1,.slice B2 y2.length d2]] (by rfl) rfl rfl (by simp only [List.map_toArray,List.map_cons,List.map_nil]; rfl) ?_
    refine HI.out.mono ?_
    rintro e w5 ⟨rfl,hb5⟩
    have HB5 := Lib.hid (hbd.trans (hb5.mono HBr.out.size))
    refine ⟨_,rfl,?_⟩
    refine hK.out _ _ ?_
    clear hK K
    refine norm_ (a':=?_) ?_ ?_
    rotate_left
    ·show Act.put _ (some 27) _ = _
     simp only [Act.put,sA_,sB_,sC_,i64_w,i32_w]
     rfl
    refine pv_ (i:=9) (N:=some 6) (v:=?_) (a':=?_) rfl rfl (by kernel_rfl) (fun _ _ _ h => h) (Or.inl ⟨by rfl,?_⟩) ?_ ?_
    rotate_left;intro w';go_simp;with_reducible rfl;rotate_left;simp only [Act.put,sA_,sB_,sC_,i64_w,i32_w];rfl
    refine done_ (by kernel_rfl) ?_
    clear hHeld
    by_cases hr0 : r = 0
    ·subst hr0
     go_wp2_with fail
     go_roundw
     case rel => exact ⟨n + 1,by omega,by go_num,by omega,Lib.hid (by rw [HE.out,HST.out]; simp),HB5⟩
     case measure => simp [intOf]; omega
    ·have hr1 : (r == 0) = false := by simpa using hr0
     go_wp2_with fail
     go_ret
     exact ⟨by rw [HE.out,HST.out,if_neg hr0]; rfl,HB5.out⟩
   ·have i3 : (b.length : Int) ≤ (n : Int) := by omega
    have i2 : (n : Int) < (a.length : Int) := by omega
    have HF := Lib.hid (cmpI_ok a.length b.length wr)
    obtain ⟨r0,hr0⟩ : ∃ z,z = cmpI a.length b.length := ⟨_,rfl⟩
    rw [← hr0] at HF
    have HR0 := Lib.hid hr0
    clear hr0
    go_wp2_with fail
    refine HF.out.mono ?_
    rintro e W9 ⟨rfl,rfl⟩
    dsimp only
    go_wp2_with fail
    go_ret
    exact ⟨by rw [HE.out,lexC_fin hn hnb (by omega),← HR0.out]; rfl,HBr.out⟩
  ·have i2 : (a.length : Int) ≤ (n : Int) := by omega
   have HF := Lib.hid (cmpI_ok a.length b.length wr)
   obtain ⟨r0,hr0⟩ : ∃ z,z = cmpI a.length b.length := ⟨_,rfl⟩
   rw [← hr0] at HF
   have HR0 := Lib.hid hr0
   clear hr0
   go_wp2_with fail
   refine HF.out.mono ?_
   rintro e W9 ⟨rfl,rfl⟩
   dsimp only
   go_wp2_with fail
   go_ret
   exact ⟨by rw [HE.out,lexC_fin hn hnb (by omega),← HR0.out]; rfl,HBr.out⟩
theorem r131_ok (a b : List Pr) (w : World) (va vb : Value) (ha : PsP (fun _ => True) w a va) (hb : PsP (fun _ => True) w b vb) :
  Calls Tryz.prog 131 #[va,vb] w fun e w' => e = .returned (.int .i64 (lexC cmpP a b)) ∧ Below w.heap.size w w' := by
 obtain ⟨A,acap,rfl,_,q1⟩ := VAt.slice ha
 obtain ⟨B,bcap,rfl,_,q2⟩ := VAt.slice hb
 unfold maxLen at q1 q2
 have HA := Lib.hid ha
 have HB := Lib.hid hb
 clear ha hb
 go_enter Tryz.func131,Tryz.ntmps131
 go_wp2_with fail
 go_loopw [5] (fun i wr => ∃ n : Nat,n ≤ a.length ∧ i = .int .i64 n ∧ n ≤ b.length ∧ Hid (lexC cmpP a b = lexC cmpP (a.drop n) (b.drop n)) ∧ Hid (Below w.heap.size w wr)) (fun i _ => a.length - (intOf i).toNat)
 case atStart => exact ⟨0,Nat.zero_le _,rfl,Nat.zero_le _,Lib.hid (by simp),Lib.hid (Below.refl _ _)⟩
 case round =>
  obtain ⟨n,hn,rfl,hnb,HE,HBr⟩ := hrel
  by_cases hlt : n < a.length
  ·by_cases hbl : n < b.length
   ·obtain ⟨xx,hx⟩ : ∃ z,a[n]? = some z := ⟨_,List.getElem?_eq_getElem hlt⟩
    obtain ⟨yy,hy⟩ : ∃ z,b[n]? = some z := ⟨_,List.getElem?_eq_getElem hbl⟩
    have HST := Lib.hid (lexC_step (c := cmpP) hx hy)
    have i1 : (0 : Int) ≤ (n : Int) := by omega
    have i2 : (n : Int) < (a.length : Int) := by omega
    have i3 : (n : Int) < (b.length : Int) := by omega
    obtain ⟨⟨x0,x1,x2⟩,⟨x3,x4,x5⟩⟩ := xx
    obtain ⟨⟨y0,y1,y2⟩,⟨y3,y4,y5⟩⟩ := yy
    obtain ⟨r1,hr1⟩ : ∃ z,z = cmpT (.mk x0 x1 x2) (.mk y0 y1 y2) := ⟨_,rfl⟩
    obtain ⟨r2,hr2⟩ : ∃ z,z = cmpT (.mk x3 x4 x5) (.mk y3 y4 y5) := ⟨_,rfl⟩
    have HP : Hid (cmpP ⟨.mk x0 x1 x2,.mk x3 x4 x5⟩ ⟨.mk y0 y1 y2,.mk y3 y4 y5⟩ = if r1 = 0 then r2 else r1) := Lib.hid (by rw [hr1,hr2]; unfold cmpP orI orI orI; dsimp only; split <;> (try split) <;> simp_all)
    obtain ⟨be,oe,A2,c2,A5,c5,rfl,_,e0,e1,e2,e3,e4,e5,_,_,he2,_,_,he5⟩ := PsP.get HA.out hx
    obtain ⟨bg,og,B2,d2,B5,d5,rfl,_,g0,g1,g2,g3,g4,g5,_,_,hg2,_,_,hg5⟩ := PsP.get HB.out hy
    have e0 := Below.cellOf HBr.out e0
    have e1 := Below.cellOf HBr.out e1
    have e2 := Below.cellOf HBr.out e2
    have e3 := Below.cellOf HBr.out e3
    have e4 := Below.cellOf HBr.out e4
    have e5 := Below.cellOf HBr.out e5
    have g0 := Below.cellOf HBr.out g0
    have g1 := Below.cellOf HBr.out g1
    have g2 := Below.cellOf HBr.out g2
    have g3 := Below.cellOf HBr.out g3
    have g4 := Below.cellOf HBr.out g4
    have g5 := Below.cellOf HBr.out g5
    have hbd : Below w.heap.size w wr.drew := HBr.out.drew
    have HI := Lib.hid (rcmpT_ok (.mk x0 x1 x2) (.mk y0 y1 y2) wr.drew _ _ (TsP.below he2 hbd) (TsP.below hg2 hbd))
    have HI2 := Lib.hid (fun (W : World) (hW : Below w.heap.size w W) => rcmpT_ok (.mk x3 x4 x5) (.mk y3 y4 y5) W _ _ (TsP.below he5 hW) (TsP.below hg5 hW))
    dsimp only [Tm.k,Tm.n,Tm.l] at HI HI2
    rw [← hr1] at HI
    rw [← hr2] at HI2
    clear hx hy he2 hg2 he5 hg5 hr1 hr2
    go_upto_region 4 with fail
    refine start_ (n:=12) (S:=fun w' => w'.cell? ⟨be,oe + n * 6,none⟩ = some (.int .i64 x0) ∧ w'.cell? ⟨be,oe + n * 6 + 1,none⟩ = some (.int .i64 x1) ∧ w'.cell? ⟨be,oe + n * 6 + 2,none⟩ = some (.slice A2 x2.length c2) ∧ w'.cell? ⟨bg,og + n * 6,none⟩ = some (.int .i64 y0) ∧ w'.cell? ⟨bg,og + n * 6 + 1,none⟩ = some (.int .i64 y1) ∧ w'.cell? ⟨bg,og + n * 6 + 2,none⟩ = some (.slice B2 y2.length d2)) (ds := [10]) #[f_,f_,f_,f_,f_,f_,f_,f_,f_,f_,f_,f_] (by kernel_rfl) rfl rfl ⟨e0,e1,e2,g0,g1,g2⟩ (fun hHeld => ?_)
    refine pv_ (i:=0) (N:=some 20) (v:=?_) (a':=?_) rfl rfl (by kernel_rfl) (fun _ _ _ h => h) (Or.inl ⟨by rfl,?_⟩) ?_ ?_
    rotate_left;intro w';go_simp;with_reducible rfl;rotate_left;simp only [Act.put,sA_,sB_,sC_,i64_w,i32_w];rfl
    refine pv_ (i:=1) (N:=some 21) (v:=?_) (a':=?_) rfl rfl (by kernel_rfl) (fun _ _ _ h => h) (Or.inl ⟨by rfl,?_⟩) ?_ ?_
    rotate_left;intro w';go_simp;with_reducible rfl;rotate_left;simp only [Act.put,sA_,sB_,sC_,i64_w,i32_w];rfl
    refine pv_ (i:=2) (N:=some 22) (v:=?_) (a':=?_) rfl rfl (by kernel_rfl) (fun _ _ _ h => h) (Or.inl ⟨by rfl,?_⟩) ?_ ?_
    rotate_left;intro w';go_simp;with_reducible rfl;rotate_left;simp only [Act.put,sA_,sB_,sC_,i64_w,i32_w];rfl
    refine pv_ (i:=3) (N:=some 23) (v:=?_) (a':=?_) rfl rfl (by kernel_rfl) (fun _ _ _ h => h) (Or.inl ⟨by rfl,?_⟩) ?_ ?_
    rotate_left;intro w';go_simp;with_reducible rfl;rotate_left;simp only [Act.put,sA_,sB_,sC_,i64_w,i32_w];rfl
    refine pv_ (i:=5) (N:=some 25) (v:=?_) (a':=?_) rfl rfl (by kernel_rfl) (fun _ _ _ h => h) (Or.inl ⟨by rfl,?_⟩) ?_ ?_
    rotate_left;intro w';go_simp;with_reducible rfl;rotate_left;simp only [Act.put,sA_,sB_,sC_,i64_w,i32_w];rfl
    refine pv_ (i:=6) (N:=some 26) (v:=?_) (a':=?_) rfl rfl (by kernel_rfl) (fun _ _ _ h => h) (Or.inl ⟨by rfl,?_⟩) ?_ ?_
    rotate_left;intro w';go_simp;with_reducible rfl;rotate_left;simp only [Act.put,sA_,sB_,sC_,i64_w,i32_w];rfl
    refine pv_ (i:=7) (N:=some 27) (v:=?_) (a':=?_) rfl rfl (by kernel_rfl) (fun _ _ _ h => h) (Or.inl ⟨by rfl,?_⟩) ?_ ?_
    rotate_left;intro w';go_simp;with_reducible rfl;rotate_left;simp only [Act.put,sA_,sB_,sC_,i64_w,i32_w];rfl
    refine pv_ (i:=8) (N:=some 28) (v:=?_) (a':=?_) rfl rfl (by kernel_rfl) (fun _ _ _ h => h) (Or.inl ⟨by rfl,?_⟩) ?_ ?_
    rotate_left;intro w';go_simp;with_reducible rfl;rotate_left;simp only [Act.put,sA_,sB_,sC_,i64_w,i32_w];rfl
    refine tv_ (i:=4) (N:=some 24) (v:=?_) (a':=?_) rfl rfl (by kernel_rfl) (fun _ _ _ h => h) (Or.inl ⟨by rfl,?_⟩) hHeld ?_ ?_
    rotate_left;rintro w' ⟨s0,s1,s2,s3,s4,s5⟩;go_simp;with_reducible rfl;rotate_left;simp only [Act.put,sA_,sB_,sC_,i64_w,i32_w];rfl
    refine tv_ (i:=9) (N:=some 29) (v:=?_) (a':=?_) rfl rfl (by kernel_rfl) (fun _ _ _ h => h) (Or.inl ⟨by rfl,?_⟩) hHeld ?_ ?_
    rotate_left;rintro w' ⟨s0,s1,s2,s3,s4,s5⟩;go_simp;with_reducible rfl;rotate_left;simp only [Act.put,sA_,sB_,sC_,i64_w,i32_w];rfl
    refine last_ (i:=10) (N:=some 30) #[t_,t_,t_,t_,t_,t_,t_,t_,t_,t_,t_,f_] rfl rfl (by kernel_rfl) (by decide) (fun K hK => ?_)
    refine goes_ Tryz.func199 (by kernel_rfl) rfl #[.agg #[.int .i64 x0,.int .i64 x1,.slice A2 x2.length c2],.agg #[.int .i64 y0,.int .i64 y1,.slice B2 y2.length d2]] (by rfl) rfl rfl (by simp only [List.map_toArray,List.map_cons,List.map_nil]; rfl) ?_
    refine HI.out.mono ?_
    rintro e w5 ⟨rfl,hb5⟩
    have HB5 := Lib.hid (hbd.trans (hb5.mono HBr.out.size))
    have e3 := Below.cellOf hb5 e3
    have e4 := Below.cellOf hb5 e4
    have e5 := Below.cellOf hb5 e5
    have g3 := Below.cellOf hb5 g3
    have g4 := Below.cellOf hb5 g4
    have g5 := Below.cellOf hb5 g5
    refine ⟨_,rfl,?_⟩
    refine hK.out _ _ ?_
    clear hK K
    refine norm_ (a':=?_) ?_ ?_
    rotate_left
    ·show Act.put _ (some 30) _ = _
     simp only [Act.put,sA_,sB_,sC_,i64_w,i32_w]
     rfl
    refine pv_ (i:=11) (N:=some 6) (v:=?_) (a':=?_) rfl rfl (by kernel_rfl) (fun _ _ _ h => h) (Or.inl ⟨by rfl,?_⟩) ?_ ?_
    rotate_left;intro w';go_simp;with_reducible rfl;rotate_left;simp only [Act.put,sA_,sB_,sC_,i64_w,i32_w];rfl
    refine done_ (by kernel_rfl) ?_
    clear hHeld
    by_cases hr0 : r1 = 0
    ·subst hr0
     go_upto_region 7 with fail
     refine start_ (n:=12) (S:=fun w' => w'.cell? ⟨be,oe + n * 6 + 3,none⟩ = some (.int .i64 x3) ∧ w'.cell? ⟨be,oe + n * 6 + 4,none⟩ = some (.int .i64 x4) ∧ w'.cell? ⟨be,oe + n * 6 + 5,none⟩ = some (.slice A5 x5.length c5) ∧ w'.cell? ⟨bg,og + n * 6 + 3,none⟩ = some (.int .i64 y3) ∧ w'.cell? ⟨bg,og + n * 6 + 4,none⟩ = some (.int .i64 y4) ∧ w'.cell? ⟨bg,og + n * 6 + 5,none⟩ = some (.slice B5 y5.length d5)) (ds := [10]) #[f_,f_,f_,f_,f_,f_,f_,f_,f_,f_,f_,f_] (by kernel_rfl) rfl rfl ⟨e3,e4,e5,g3,g4,g5⟩ (fun hHeld => ?_)
     refine pv_ (i:=0) (N:=some 34) (v:=?_) (a':=?_) rfl rfl (by kernel_rfl) (fun _ _ _ h => h) (Or.inl ⟨by rfl,?_⟩) ?_ ?_
     rotate_left;intro w';go_simp;with_reducible rfl;rotate_left;simp only [Act.put,sA_,sB_,sC_,i64_w,i32_w];rfl
     refine pv_ (i:=1) (N:=some 35) (v:=?_) (a':=?_) rfl rfl (by kernel_rfl) (fun _ _ _ h => h) (Or.inl ⟨by rfl,?_⟩) ?_ ?_
     rotate_left;intro w';go_simp;with_reducible rfl;rotate_left;simp only [Act.put,sA_,sB_,sC_,i64_w,i32_w];rfl
     refine pv_ (i:=2) (N:=some 36) (v:=?_) (a':=?_) rfl rfl (by kernel_rfl) (fun _ _ _ h => h) (Or.inl ⟨by rfl,?_⟩) ?_ ?_
     rotate_left;intro w';go_simp;with_reducible rfl;rotate_left;simp only [Act.put,sA_,sB_,sC_,i64_w,i32_w];rfl
     refine pv_ (i:=3) (N:=some 37) (v:=?_) (a':=?_) rfl rfl (by kernel_rfl) (fun _ _ _ h => h) (Or.inl ⟨by rfl,?_⟩) ?_ ?_
     rotate_left;intro w';go_simp;with_reducible rfl;rotate_left;simp only [Act.put,sA_,sB_,sC_,i64_w,i32_w];rfl
     refine pv_ (i:=5) (N:=some 39) (v:=?_) (a':=?_) rfl rfl (by kernel_rfl) (fun _ _ _ h => h) (Or.inl ⟨by rfl,?_⟩) ?_ ?_
     rotate_left;intro w';go_simp;with_reducible rfl;rotate_left;simp only [Act.put,sA_,sB_,sC_,i64_w,i32_w];rfl
     refine pv_ (i:=6) (N:=some 40) (v:=?_) (a':=?_) rfl rfl (by kernel_rfl) (fun _ _ _ h => h) (Or.inl ⟨by rfl,?_⟩) ?_ ?_
     rotate_left;intro w';go_simp;with_reducible rfl;rotate_left;simp only [Act.put,sA_,sB_,sC_,i64_w,i32_w];rfl
     refine pv_ (i:=7) (N:=some 41) (v:=?_) (a':=?_) rfl rfl (by kernel_rfl) (fun _ _ _ h => h) (Or.inl ⟨by rfl,?_⟩) ?_ ?_
     rotate_left;intro w';go_simp;with_reducible rfl;rotate_left;simp only [Act.put,sA_,sB_,sC_,i64_w,i32_w];rfl
     refine pv_ (i:=8) (N:=some 42) (v:=?_) (a':=?_) rfl rfl (by kernel_rfl) (fun _ _ _ h => h) (Or.inl ⟨by rfl,?_⟩) ?_ ?_
     rotate_left;intro w';go_simp;with_reducible rfl;rotate_left;simp only [Act.put,sA_,sB_,sC_,i64_w,i32_w];rfl
     refine tv_ (i:=4) (N:=some 38) (v:=?_) (a':=?_) rfl rfl (by kernel_rfl) (fun _ _ _ h => h) (Or.inl ⟨by rfl,?_⟩) hHeld ?_ ?_
     rotate_left;rintro w' ⟨s0,s1,s2,s3,s4,s5⟩;go_simp;with_reducible rfl;rotate_left;simp only [Act.put,sA_,sB_,sC_,i64_w,i32_w];rfl
     refine tv_ (i:=9) (N:=some 43) (v:=?_) (a':=?_) rfl rfl (by kernel_rfl) (fun _ _ _ h => h) (Or.inl ⟨by rfl,?_⟩) hHeld ?_ ?_
     rotate_left;rintro w' ⟨s0,s1,s2,s3,s4,s5⟩;go_simp;with_reducible rfl;rotate_left;simp only [Act.put,sA_,sB_,sC_,i64_w,i32_w];rfl
     refine last_ (i:=10) (N:=some 44) #[t_,t_,t_,t_,t_,t_,t_,t_,t_,t_,t_,f_] rfl rfl (by kernel_rfl) (by decide) (fun K hK => ?_)
     refine goes_ Tryz.func199 (by kernel_rfl) rfl #[.agg #[.int .i64 x3,.int .i64 x4,.slice A5 x5.length c5],.agg #[.int .i64 y3,.int .i64 y4,.slice B5 y5.length d5]] (by rfl) rfl rfl (by simp only [List.map_toArray,List.map_cons,List.map_nil]; rfl) ?_
     refine (HI2.out _ HB5.out.drew).mono ?_
     rintro e w6 ⟨rfl,hb6⟩
     have HB6 := Lib.hid (HB5.out.drew.trans (hb6.mono HB5.out.size))
     refine ⟨_,rfl,?_⟩
     refine hK.out _ _ ?_
     clear hK K
     refine norm_ (a':=?_) ?_ ?_
     rotate_left
     ·show Act.put _ (some 44) _ = _
      simp only [Act.put,sA_,sB_,sC_,i64_w,i32_w]
      rfl
     refine pv_ (i:=11) (N:=some 7) (v:=?_) (a':=?_) rfl rfl (by kernel_rfl) (fun _ _ _ h => h) (Or.inl ⟨by rfl,?_⟩) ?_ ?_
     rotate_left;intro w';go_simp;with_reducible rfl;rotate_left;simp only [Act.put,sA_,sB_,sC_,i64_w,i32_w];rfl
     refine done_ (by kernel_rfl) ?_
     clear hHeld
     by_cases hr3 : r2 = 0
     ·subst hr3
      go_wp2_with fail
      go_roundw
      case rel => exact ⟨n + 1,by omega,by go_num,by omega,Lib.hid (by rw [HE.out,HST.out,HP.out]; simp),HB6⟩
      case measure => simp [intOf]; omega
     ·have hr4 : (r2 == 0) = false := by simpa using hr3
      go_wp2_with fail
      go_ret
      exact ⟨by rw [HE.out,HST.out,HP.out]; simp [hr3],HB6.out⟩
    ·have hr1 : (r1 == 0) = false := by simpa using hr0
     go_wp2_with fail
     go_ret
     exact ⟨by rw [HE.out,HST.out,HP.out,if_neg hr0,if_neg hr0]; rfl,HB5.out⟩
   ·have i3 : (b.length : Int) ≤ (n : Int) := by omega
    have i2 : (n : Int) < (a.length : Int) := by omega
    have HF := Lib.hid (cmpI_ok a.length b.length wr)
    obtain ⟨r0,hr0⟩ : ∃ z,z = cmpI a.length b.length := ⟨_,rfl⟩
    rw [← hr0] at HF
    have HR0 := Lib.hid hr0
    clear hr0
    go_wp2_with fail
    refine HF.out.mono ?_
    rintro e W9 ⟨rfl,rfl⟩
    dsimp only
    go_wp2_with fail
    go_ret
    exact ⟨by rw [HE.out,lexC_fin hn hnb (by omega),← HR0.out]; rfl,HBr.out⟩
  ·have i2 : (a.length : Int) ≤ (n : Int) := by omega
   have HF := Lib.hid (cmpI_ok a.length b.length wr)
   obtain ⟨r0,hr0⟩ : ∃ z,z = cmpI a.length b.length := ⟨_,rfl⟩
   rw [← hr0] at HF
   have HR0 := Lib.hid hr0
   clear hr0
   go_wp2_with fail
   refine HF.out.mono ?_
   rintro e W9 ⟨rfl,rfl⟩
   dsimp only
   go_wp2_with fail
   go_ret
   exact ⟨by rw [HE.out,lexC_fin hn hnb (by omega),← HR0.out]; rfl,HBr.out⟩
theorem r130_ok (a b : List Off) (w : World) (va vb : Value) (ha : OsP (fun _ => True) w a va) (hb : OsP (fun _ => True) w b vb) :
  Calls Tryz.prog 130 #[va,vb] w fun e w' => e = .returned (.int .i64 (lexC cmpO a b)) ∧ Below w.heap.size w w' := by
 obtain ⟨A,acap,rfl,_,q1⟩ := VAt.slice ha
 obtain ⟨B,bcap,rfl,_,q2⟩ := VAt.slice hb
 unfold maxLen at q1 q2
 have HA := Lib.hid ha
 have HB := Lib.hid hb
 clear ha hb
 go_enter Tryz.func130,Tryz.ntmps130
 go_wp2_with fail
 go_loopw [5] (fun i wr => ∃ n : Nat,n ≤ a.length ∧ i = .int .i64 n ∧ n ≤ b.length ∧ Hid (lexC cmpO a b = lexC cmpO (a.drop n) (b.drop n)) ∧ Hid (Below w.heap.size w wr)) (fun i _ => a.length - (intOf i).toNat)
 case atStart => exact ⟨0,Nat.zero_le _,rfl,Nat.zero_le _,Lib.hid (by simp),Lib.hid (Below.refl _ _)⟩
 case round =>
  obtain ⟨n,hn,rfl,hnb,HE,HBr⟩ := hrel
  by_cases hlt : n < a.length
  ·by_cases hbl : n < b.length
   ·obtain ⟨xx,hx⟩ : ∃ z,a[n]? = some z := ⟨_,List.getElem?_eq_getElem hlt⟩
    obtain ⟨yy,hy⟩ : ∃ z,b[n]? = some z := ⟨_,List.getElem?_eq_getElem hbl⟩
    have HST := Lib.hid (lexC_step (c := cmpO) hx hy)
    have i1 : (0 : Int) ≤ (n : Int) := by omega
    have i2 : (n : Int) < (a.length : Int) := by omega
    have i3 : (n : Int) < (b.length : Int) := by omega
    obtain ⟨x0,x1,⟨x2,x3,x4⟩⟩ := xx
    obtain ⟨y0,y1,⟨y2,y3,y4⟩⟩ := yy
    obtain ⟨r1,hr1⟩ : ∃ z,z = cmpI x1 y1 := ⟨_,rfl⟩
    obtain ⟨r2,hr2⟩ : ∃ z,z = cmpT (.mk x2 x3 x4) (.mk y2 y3 y4) := ⟨_,rfl⟩
    have HP : Hid (cmpO ⟨x0,x1,.mk x2 x3 x4⟩ ⟨y0,y1,.mk y2 y3 y4⟩ = if x0 = y0 then (if r1 = 0 then r2 else r1) else if y0 = true then -1 else 1) := Lib.hid (by rw [hr1,hr2]; unfold cmpO orI orI orI; dsimp only; split <;> (try split) <;> (try split) <;> simp_all)
    obtain ⟨be,oe,A4,c4,rfl,_,e0,e1,e2,e3,e4,_,_,_,he4⟩ := OsP.get HA.out hx
    obtain ⟨bg,og,B4,d4,rfl,_,g0,g1,g2,g3,g4,_,_,_,hg4⟩ := OsP.get HB.out hy
    have e0 := Below.cellOf HBr.out e0
    have e1 := Below.cellOf HBr.out e1
    have e2 := Below.cellOf HBr.out e2
    have e3 := Below.cellOf HBr.out e3
    have e4 := Below.cellOf HBr.out e4
    have g0 := Below.cellOf HBr.out g0
    have g1 := Below.cellOf HBr.out g1
    have g2 := Below.cellOf HBr.out g2
    have g3 := Below.cellOf HBr.out g3
    have g4 := Below.cellOf HBr.out g4
    have hbd : Below w.heap.size w wr.drew := HBr.out.drew
    have HI2 := Lib.hid (fun (W : World) (hW : Below w.heap.size w W) => rcmpT_ok (.mk x2 x3 x4) (.mk y2 y3 y4) W _ _ (TsP.below he4 hW) (TsP.below hg4 hW))
    have HI := Lib.hid (cmpI_ok x1 y1)
    dsimp only [Tm.k,Tm.n,Tm.l] at HI2
    rw [← hr1] at HI
    rw [← hr2] at HI2
    clear hx hy he4 hg4 hr1 hr2
    cases x0
    all_goals cases y0
    ·go_upto_region 4 with fail
     go_quiet (fail)
     have hz9 : Below w.heap.size w (wr.drewN nq) := below_drewN HBr.out nq
     have e0 := Below.cellOf (below_drewN (Below.refl _ _) nq) e0
     have e1 := Below.cellOf (below_drewN (Below.refl _ _) nq) e1
     have e2 := Below.cellOf (below_drewN (Below.refl _ _) nq) e2
     have e3 := Below.cellOf (below_drewN (Below.refl _ _) nq) e3
     have e4 := Below.cellOf (below_drewN (Below.refl _ _) nq) e4
     have g0 := Below.cellOf (below_drewN (Below.refl _ _) nq) g0
     have g1 := Below.cellOf (below_drewN (Below.refl _ _) nq) g1
     have g2 := Below.cellOf (below_drewN (Below.refl _ _) nq) g2
     have g3 := Below.cellOf (below_drewN (Below.refl _ _) nq) g3
     have g4 := Below.cellOf (below_drewN (Below.refl _ _) nq) g4
     obtain ⟨W4,hW4⟩ : ∃ z,z = wr.drewN nq := ⟨_,rfl⟩
     rw [← hW4] at e0 e1 e2 e3 e4 g0 g1 g2 g3 g4 hz9 ⊢
     have HB4 := Lib.hid hz9
     clear hW4 hz9
     go_upto_region 8 with fail
     refine start_ (n:=12) (S:=fun w' => w'.cell? ⟨be,oe + n * 5 + 1,none⟩ = some (.int .i64 x1) ∧ w'.cell? ⟨bg,og + n * 5 + 1,none⟩ = some (.int .i64 y1)) (ds := [10]) #[f_,f_,f_,f_,f_,f_,f_,f_,f_,f_,f_,f_] (by kernel_rfl) rfl rfl ⟨e1,g1⟩ (fun hHeld => ?_)
     refine pv_ (i:=0) (N:=some 36) (v:=?_) (a':=?_) rfl rfl (by kernel_rfl) (fun _ _ _ h => h) (Or.inl ⟨by rfl,?_⟩) ?_ ?_
     rotate_left;intro w';go_simp;with_reducible rfl;rotate_left;simp only [Act.put,sA_,sB_,sC_,i64_w,i32_w];rfl
     refine pv_ (i:=1) (N:=some 37) (v:=?_) (a':=?_) rfl rfl (by kernel_rfl) (fun _ _ _ h => h) (Or.inl ⟨by rfl,?_⟩) ?_ ?_
     rotate_left;intro w';go_simp;with_reducible rfl;rotate_left;simp only [Act.put,sA_,sB_,sC_,i64_w,i32_w];rfl
     refine pv_ (i:=2) (N:=some 38) (v:=?_) (a':=?_) rfl rfl (by kernel_rfl) (fun _ _ _ h => h) (Or.inl ⟨by rfl,?_⟩) ?_ ?_
     rotate_left;intro w';go_simp;with_reducible rfl;rotate_left;simp only [Act.put,sA_,sB_,sC_,i64_w,i32_w];rfl
     refine pv_ (i:=3) (N:=some 39) (v:=?_) (a':=?_) rfl rfl (by kernel_rfl) (fun _ _ _ h => h) (Or.inl ⟨by rfl,?_⟩) ?_ ?_
     rotate_left;intro w';go_simp;with_reducible rfl;rotate_left;simp only [Act.put,sA_,sB_,sC_,i64_w,i32_w];rfl
     refine pv_ (i:=5) (N:=some 41) (v:=?_) (a':=?_) rfl rfl (by kernel_rfl) (fun _ _ _ h => h) (Or.inl ⟨by rfl,?_⟩) ?_ ?_
     rotate_left;intro w';go_simp;with_reducible rfl;rotate_left;simp only [Act.put,sA_,sB_,sC_,i64_w,i32_w];rfl
     refine pv_ (i:=6) (N:=some 42) (v:=?_) (a':=?_) rfl rfl (by kernel_rfl) (fun _ _ _ h => h) (Or.inl ⟨by rfl,?_⟩) ?_ ?_
     rotate_left;intro w';go_simp;with_reducible rfl;rotate_left;simp only [Act.put,sA_,sB_,sC_,i64_w,i32_w];rfl
     refine pv_ (i:=7) (N:=some 43) (v:=?_) (a':=?_) rfl rfl (by kernel_rfl) (fun _ _ _ h => h) (Or.inl ⟨by rfl,?_⟩) ?_ ?_
     rotate_left;intro w';go_simp;with_reducible rfl;rotate_left;simp only [Act.put,sA_,sB_,sC_,i64_w,i32_w];rfl
     refine pv_ (i:=8) (N:=some 44) (v:=?_) (a':=?_) rfl rfl (by kernel_rfl) (fun _ _ _ h => h) (Or.inl ⟨by rfl,?_⟩) ?_ ?_
     rotate_left;intro w';go_simp;with_reducible rfl;rotate_left;simp only [Act.put,sA_,sB_,sC_,i64_w,i32_w];rfl
     refine tv_ (i:=4) (N:=some 40) (v:=?_) (a':=?_) rfl rfl (by kernel_rfl) (fun _ _ _ h => h) (Or.inl ⟨by rfl,?_⟩) hHeld ?_ ?_
     rotate_left;rintro w' ⟨s0,s1⟩;go_simp;with_reducible rfl;rotate_left;simp only [Act.put,sA_,sB_,sC_,i64_w,i32_w];rfl
     refine tv_ (i:=9) (N:=some 45) (v:=?_) (a':=?_) rfl rfl (by kernel_rfl) (fun _ _ _ h => h) (Or.inl ⟨by rfl,?_⟩) hHeld ?_ ?_
     rotate_left;rintro w' ⟨s0,s1⟩;go_simp;with_reducible rfl;rotate_left;simp only [Act.put,sA_,sB_,sC_,i64_w,i32_w];rfl
     refine last_ (i:=10) (N:=some 46) #[t_,t_,t_,t_,t_,t_,t_,t_,t_,t_,t_,f_] rfl rfl (by kernel_rfl) (by decide) (fun K hK => ?_)
     refine goes_ Tryz.func114 (by kernel_rfl) rfl #[.int .i64 x1,.int .i64 y1] (by rfl) rfl rfl (by simp only [List.map_toArray,List.map_cons,List.map_nil]; rfl) ?_
     refine (HI.out _).mono ?_
     rintro e w5 ⟨rfl,rfl⟩
     refine ⟨_,rfl,?_⟩
     refine hK.out _ _ ?_
     clear hK K
     refine norm_ (a':=?_) ?_ ?_
     rotate_left
     ·show Act.put _ (some 46) _ = _
      simp only [Act.put,sA_,sB_,sC_,i64_w,i32_w]
      rfl
     refine pv_ (i:=11) (N:=some 6) (v:=?_) (a':=?_) rfl rfl (by kernel_rfl) (fun _ _ _ h => h) (Or.inl ⟨by rfl,?_⟩) ?_ ?_
     rotate_left;intro w';go_simp;with_reducible rfl;rotate_left;simp only [Act.put,sA_,sB_,sC_,i64_w,i32_w];rfl
     refine done_ (by kernel_rfl) ?_
     clear hHeld
     by_cases hr0 : r1 = 0
     ·subst hr0
      have e2 : W4.drew.cell? ⟨be,oe + n * 5 + 2,none⟩ = some (.int .i64 x2) := e2
      have e3 : W4.drew.cell? ⟨be,oe + n * 5 + 3,none⟩ = some (.int .i64 x3) := e3
      have e4 : W4.drew.cell? ⟨be,oe + n * 5 + 4,none⟩ = some (.slice A4 x4.length c4) := e4
      have g2 : W4.drew.cell? ⟨bg,og + n * 5 + 2,none⟩ = some (.int .i64 y2) := g2
      have g3 : W4.drew.cell? ⟨bg,og + n * 5 + 3,none⟩ = some (.int .i64 y3) := g3
      have g4 : W4.drew.cell? ⟨bg,og + n * 5 + 4,none⟩ = some (.slice B4 y4.length d4) := g4
      go_upto_region 11 with fail
      refine start_ (n:=12) (S:=fun w' => w'.cell? ⟨be,oe + n * 5 + 2,none⟩ = some (.int .i64 x2) ∧ w'.cell? ⟨be,oe + n * 5 + 3,none⟩ = some (.int .i64 x3) ∧ w'.cell? ⟨be,oe + n * 5 + 4,none⟩ = some (.slice A4 x4.length c4) ∧ w'.cell? ⟨bg,og + n * 5 + 2,none⟩ = some (.int .i64 y2) ∧ w'.cell? ⟨bg,og + n * 5 + 3,none⟩ = some (.int .i64 y3) ∧ w'.cell? ⟨bg,og + n * 5 + 4,none⟩ = some (.slice B4 y4.length d4)) (ds := [10]) #[f_,f_,f_,f_,f_,f_,f_,f_,f_,f_,f_,f_] (by kernel_rfl) rfl rfl ⟨e2,e3,e4,g2,g3,g4⟩ (fun hHeld => ?_)
      refine pv_ (i:=0) (N:=some 50) (v:=?_) (a':=?_) rfl rfl (by kernel_rfl) (fun _ _ _ h => h) (Or.inl ⟨by rfl,?_⟩) ?_ ?_
      rotate_left;intro w';go_simp;with_reducible rfl;rotate_left;simp only [Act.put,sA_,sB_,sC_,i64_w,i32_w];rfl
      refine pv_ (i:=1) (N:=some 51) (v:=?_) (a':=?_) rfl rfl (by kernel_rfl) (fun _ _ _ h => h) (Or.inl ⟨by rfl,?_⟩) ?_ ?_
      rotate_left;intro w';go_simp;with_reducible rfl;rotate_left;simp only [Act.put,sA_,sB_,sC_,i64_w,i32_w];rfl
      refine pv_ (i:=2) (N:=some 52) (v:=?_) (a':=?_) rfl rfl (by kernel_rfl) (fun _ _ _ h => h) (Or.inl ⟨by rfl,?_⟩) ?_ ?_
      rotate_left;intro w';go_simp;with_reducible rfl;rotate_left;simp only [Act.put,sA_,sB_,sC_,i64_w,i32_w];rfl
      refine pv_ (i:=3) (N:=some 53) (v:=?_) (a':=?_) rfl rfl (by kernel_rfl) (fun _ _ _ h => h) (Or.inl ⟨by rfl,?_⟩) ?_ ?_
      rotate_left;intro w';go_simp;with_reducible rfl;rotate_left;simp only [Act.put,sA_,sB_,sC_,i64_w,i32_w];rfl
      refine pv_ (i:=5) (N:=some 55) (v:=?_) (a':=?_) rfl rfl (by kernel_rfl) (fun _ _ _ h => h) (Or.inl ⟨by rfl,?_⟩) ?_ ?_
      rotate_left;intro w';go_simp;with_reducible rfl;rotate_left;simp only [Act.put,sA_,sB_,sC_,i64_w,i32_w];rfl
      refine pv_ (i:=6) (N:=some 56) (v:=?_) (a':=?_) rfl rfl (by kernel_rfl) (fun _ _ _ h => h) (Or.inl ⟨by rfl,?_⟩) ?_ ?_
      rotate_left;intro w';go_simp;with_reducible rfl;rotate_left;simp only [Act.put,sA_,sB_,sC_,i64_w,i32_w];rfl
      refine pv_ (i:=7) (N:=some 57) (v:=?_) (a':=?_) rfl rfl (by kernel_rfl) (fun _ _ _ h => h) (Or.inl ⟨by rfl,?_⟩) ?_ ?_
      rotate_left;intro w';go_simp;with_reducible rfl;rotate_left;simp only [Act.put,sA_,sB_,sC_,i64_w,i32_w];rfl
      refine pv_ (i:=8) (N:=some 58) (v:=?_) (a':=?_) rfl rfl (by kernel_rfl) (fun _ _ _ h => h) (Or.inl ⟨by rfl,?_⟩) ?_ ?_
      rotate_left;intro w';go_simp;with_reducible rfl;rotate_left;simp only [Act.put,sA_,sB_,sC_,i64_w,i32_w];rfl
      refine tv_ (i:=4) (N:=some 54) (v:=?_) (a':=?_) rfl rfl (by kernel_rfl) (fun _ _ _ h => h) (Or.inl ⟨by rfl,?_⟩) hHeld ?_ ?_
      rotate_left;rintro w' ⟨s0,s1,s2,s3,s4,s5⟩;go_simp;with_reducible rfl;rotate_left;simp only [Act.put,sA_,sB_,sC_,i64_w,i32_w];rfl
      refine tv_ (i:=9) (N:=some 59) (v:=?_) (a':=?_) rfl rfl (by kernel_rfl) (fun _ _ _ h => h) (Or.inl ⟨by rfl,?_⟩) hHeld ?_ ?_
      rotate_left;rintro w' ⟨s0,s1,s2,s3,s4,s5⟩;go_simp;with_reducible rfl;rotate_left;simp only [Act.put,sA_,sB_,sC_,i64_w,i32_w];rfl
      refine last_ (i:=10) (N:=some 60) #[t_,t_,t_,t_,t_,t_,t_,t_,t_,t_,t_,f_] rfl rfl (by kernel_rfl) (by decide) (fun K hK => ?_)
      refine goes_ Tryz.func199 (by kernel_rfl) rfl #[.agg #[.int .i64 x2,.int .i64 x3,.slice A4 x4.length c4],.agg #[.int .i64 y2,.int .i64 y3,.slice B4 y4.length d4]] (by rfl) rfl rfl (by simp only [List.map_toArray,List.map_cons,List.map_nil]; rfl) ?_
      refine (HI2.out _ HB4.out.drew.drew).mono ?_
      rintro e w6 ⟨rfl,hb6⟩
      have HB6 := Lib.hid (HB4.out.drew.drew.trans (hb6.mono HB4.out.size))
      refine ⟨_,rfl,?_⟩
      refine hK.out _ _ ?_
      clear hK K
      refine norm_ (a':=?_) ?_ ?_
      rotate_left
      ·show Act.put _ (some 60) _ = _
       simp only [Act.put,sA_,sB_,sC_,i64_w,i32_w]
       rfl
      refine pv_ (i:=11) (N:=some 7) (v:=?_) (a':=?_) rfl rfl (by kernel_rfl) (fun _ _ _ h => h) (Or.inl ⟨by rfl,?_⟩) ?_ ?_
      rotate_left;intro w';go_simp;with_reducible rfl;rotate_left;simp only [Act.put,sA_,sB_,sC_,i64_w,i32_w];rfl
      refine done_ (by kernel_rfl) ?_
      clear hHeld
      by_cases hr3 : r2 = 0
      ·subst hr3
       go_wp2_with fail
       go_roundw
       case rel => exact ⟨n + 1,by omega,by go_num,by omega,Lib.hid (by rw [HE.out,HST.out,HP.out]; simp),HB6⟩
       case measure => simp [intOf]; omega
      ·have hr4 : (r2 == 0) = false := by simpa using hr3
       go_wp2_with fail
       go_ret
       exact ⟨by rw [HE.out,HST.out,HP.out]; simp [hr3],HB6.out⟩
     ·have hr1 : (r1 == 0) = false := by simpa using hr0
      go_wp2_with fail
      go_ret
      exact ⟨by rw [HE.out,HST.out,HP.out]; simp [hr0],HB4.out.drew⟩
    ·go_upto_region 4 with fail
     go_quiet (fail)
     have hz9 : Below w.heap.size w (wr.drewN nq) := below_drewN HBr.out nq
     have e0 := Below.cellOf (below_drewN (Below.refl _ _) nq) e0
     have e1 := Below.cellOf (below_drewN (Below.refl _ _) nq) e1
     have e2 := Below.cellOf (below_drewN (Below.refl _ _) nq) e2
     have e3 := Below.cellOf (below_drewN (Below.refl _ _) nq) e3
     have e4 := Below.cellOf (below_drewN (Below.refl _ _) nq) e4
     have g0 := Below.cellOf (below_drewN (Below.refl _ _) nq) g0
     have g1 := Below.cellOf (below_drewN (Below.refl _ _) nq) g1
     have g2 := Below.cellOf (below_drewN (Below.refl _ _) nq) g2
     have g3 := Below.cellOf (below_drewN (Below.refl _ _) nq) g3
     have g4 := Below.cellOf (below_drewN (Below.refl _ _) nq) g4
     obtain ⟨W4,hW4⟩ : ∃ z,z = wr.drewN nq := ⟨_,rfl⟩
     rw [← hW4] at e0 e1 e2 e3 e4 g0 g1 g2 g3 g4 hz9 ⊢
     have HB4 := Lib.hid hz9
     clear hW4 hz9
     go_wp2_with fail
     go_ret
     exact ⟨by rw [HE.out,HST.out,HP.out]; simp,HB4.out⟩
    ·go_upto_region 4 with fail
     go_quiet (fail)
     have hz9 : Below w.heap.size w (wr.drewN nq) := below_drewN HBr.out nq
     have e0 := Below.cellOf (below_drewN (Below.refl _ _) nq) e0
     have e1 := Below.cellOf (below_drewN (Below.refl _ _) nq) e1
     have e2 := Below.cellOf (below_drewN (Below.refl _ _) nq) e2
     have e3 := Below.cellOf (below_drewN (Below.refl _ _) nq) e3
     have e4 := Below.cellOf (below_drewN (Below.refl _ _) nq) e4
     have g0 := Below.cellOf (below_drewN (Below.refl _ _) nq) g0
     have g1 := Below.cellOf (below_drewN (Below.refl _ _) nq) g1
     have g2 := Below.cellOf (below_drewN (Below.refl _ _) nq) g2
     have g3 := Below.cellOf (below_drewN (Below.refl _ _) nq) g3
     have g4 := Below.cellOf (below_drewN (Below.refl _ _) nq) g4
     obtain ⟨W4,hW4⟩ : ∃ z,z = wr.drewN nq := ⟨_,rfl⟩
     rw [← hW4] at e0 e1 e2 e3 e4 g0 g1 g2 g3 g4 hz9 ⊢
     have HB4 := Lib.hid hz9
     clear hW4 hz9
     go_wp2_with fail
     go_ret
     exact ⟨by rw [HE.out,HST.out,HP.out]; simp,HB4.out⟩
    ·go_upto_region 4 with fail
     go_quiet (fail)
     have hz9 : Below w.heap.size w (wr.drewN nq) := below_drewN HBr.out nq
     have e0 := Below.cellOf (below_drewN (Below.refl _ _) nq) e0
     have e1 := Below.cellOf (below_drewN (Below.refl _ _) nq) e1
     have e2 := Below.cellOf (below_drewN (Below.refl _ _) nq) e2
     have e3 := Below.cellOf (below_drewN (Below.refl _ _) nq) e3
     have e4 := Below.cellOf (below_drewN (Below.refl _ _) nq) e4
     have g0 := Below.cellOf (below_drewN (Below.refl _ _) nq) g0
     have g1 := Below.cellOf (below_drewN (Below.refl _ _) nq) g1
     have g2 := Below.cellOf (below_drewN (Below.refl _ _) nq) g2
     have g3 := Below.cellOf (below_drewN (Below.refl _ _) nq) g3
     have g4 := Below.cellOf (below_drewN (Below.refl _ _) nq) g4
     obtain ⟨W4,hW4⟩ : ∃ z,z = wr.drewN nq := ⟨_,rfl⟩
     rw [← hW4] at e0 e1 e2 e3 e4 g0 g1 g2 g3 g4 hz9 ⊢
     have HB4 := Lib.hid hz9
     clear hW4 hz9
     go_upto_region 8 with fail
     refine start_ (n:=12) (S:=fun w' => w'.cell? ⟨be,oe + n * 5 + 1,none⟩ = some (.int .i64 x1) ∧ w'.cell? ⟨bg,og + n * 5 + 1,none⟩ = some (.int .i64 y1)) (ds := [10]) #[f_,f_,f_,f_,f_,f_,f_,f_,f_,f_,f_,f_] (by kernel_rfl) rfl rfl ⟨e1,g1⟩ (fun hHeld => ?_)
     refine pv_ (i:=0) (N:=some 36) (v:=?_) (a':=?_) rfl rfl (by kernel_rfl) (fun _ _ _ h => h) (Or.inl ⟨by rfl,?_⟩) ?_ ?_
     rotate_left;intro w';go_simp;with_reducible rfl;rotate_left;simp only [Act.put,sA_,sB_,sC_,i64_w,i32_w];rfl
     refine pv_ (i:=1) (N:=some 37) (v:=?_) (a':=?_) rfl rfl (by kernel_rfl) (fun _ _ _ h => h) (Or.inl ⟨by rfl,?_⟩) ?_ ?_
     rotate_left;intro w';go_simp;with_reducible rfl;rotate_left;simp only [Act.put,sA_,sB_,sC_,i64_w,i32_w];rfl
     refine pv_ (i:=2) (N:=some 38) (v:=?_) (a':=?_) rfl rfl (by kernel_rfl) (fun _ _ _ h => h) (Or.inl ⟨by rfl,?_⟩) ?_ ?_
     rotate_left;intro w';go_simp;with_reducible rfl;rotate_left;simp only [Act.put,sA_,sB_,sC_,i64_w,i32_w];rfl
     refine pv_ (i:=3) (N:=some 39) (v:=?_) (a':=?_) rfl rfl (by kernel_rfl) (fun _ _ _ h => h) (Or.inl ⟨by rfl,?_⟩) ?_ ?_
     rotate_left;intro w';go_simp;with_reducible rfl;rotate_left;simp only [Act.put,sA_,sB_,sC_,i64_w,i32_w];rfl
     refine pv_ (i:=5) (N:=some 41) (v:=?_) (a':=?_) rfl rfl (by kernel_rfl) (fun _ _ _ h => h) (Or.inl ⟨by rfl,?_⟩) ?_ ?_
     rotate_left;intro w';go_simp;with_reducible rfl;rotate_left;simp only [Act.put,sA_,sB_,sC_,i64_w,i32_w];rfl
     refine pv_ (i:=6) (N:=some 42) (v:=?_) (a':=?_) rfl rfl (by kernel_rfl) (fun _ _ _ h => h) (Or.inl ⟨by rfl,?_⟩) ?_ ?_
     rotate_left;intro w';go_simp;with_reducible rfl;rotate_left;simp only [Act.put,sA_,sB_,sC_,i64_w,i32_w];rfl
     refine pv_ (i:=7) (N:=some 43) (v:=?_) (a':=?_) rfl rfl (by kernel_rfl) (fun _ _ _ h => h) (Or.inl ⟨by rfl,?_⟩) ?_ ?_
     rotate_left;intro w';go_simp;with_reducible rfl;rotate_left;simp only [Act.put,sA_,sB_,sC_,i64_w,i32_w];rfl
     refine pv_ (i:=8) (N:=some 44) (v:=?_) (a':=?_) rfl rfl (by kernel_rfl) (fun _ _ _ h => h) (Or.inl ⟨by rfl,?_⟩) ?_ ?_
     rotate_left;intro w';go_simp;with_reducible rfl;rotate_left;simp only [Act.put,sA_,sB_,sC_,i64_w,i32_w];rfl
     refine tv_ (i:=4) (N:=some 40) (v:=?_) (a':=?_) rfl rfl (by kernel_rfl) (fun _ _ _ h => h) (Or.inl ⟨by rfl,?_⟩) hHeld ?_ ?_
     rotate_left;rintro w' ⟨s0,s1⟩;go_simp;with_reducible rfl;rotate_left;simp only [Act.put,sA_,sB_,sC_,i64_w,i32_w];rfl
     refine tv_ (i:=9) (N:=some 45) (v:=?_) (a':=?_) rfl rfl (by kernel_rfl) (fun _ _ _ h => h) (Or.inl ⟨by rfl,?_⟩) hHeld ?_ ?_
     rotate_left;rintro w' ⟨s0,s1⟩;go_simp;with_reducible rfl;rotate_left;simp only [Act.put,sA_,sB_,sC_,i64_w,i32_w];rfl
     refine last_ (i:=10) (N:=some 46) #[t_,t_,t_,t_,t_,t_,t_,t_,t_,t_,t_,f_] rfl rfl (by kernel_rfl) (by decide) (fun K hK => ?_)
     refine goes_ Tryz.func114 (by kernel_rfl) rfl #[.int .i64 x1,.int .i64 y1] (by rfl) rfl rfl (by simp only [List.map_toArray,List.map_cons,List.map_nil]; rfl) ?_
     refine (HI.out _).mono ?_
     rintro e w5 ⟨rfl,rfl⟩
     refine ⟨_,rfl,?_⟩
     refine hK.out _ _ ?_
     clear hK K
     refine norm_ (a':=?_) ?_ ?_
     rotate_left
     ·show Act.put _ (some 46) _ = _
      simp only [Act.put,sA_,sB_,sC_,i64_w,i32_w]
      rfl
     refine pv_ (i:=11) (N:=some 6) (v:=?_) (a':=?_) rfl rfl (by kernel_rfl) (fun _ _ _ h => h) (Or.inl ⟨by rfl,?_⟩) ?_ ?_
     rotate_left;intro w';go_simp;with_reducible rfl;rotate_left;simp only [Act.put,sA_,sB_,sC_,i64_w,i32_w];rfl
     refine done_ (by kernel_rfl) ?_
     clear hHeld
     by_cases hr0 : r1 = 0
     ·subst hr0
      have e2 : W4.drew.cell? ⟨be,oe + n * 5 + 2,none⟩ = some (.int .i64 x2) := e2
      have e3 : W4.drew.cell? ⟨be,oe + n * 5 + 3,none⟩ = some (.int .i64 x3) := e3
      have e4 : W4.drew.cell? ⟨be,oe + n * 5 + 4,none⟩ = some (.slice A4 x4.length c4) := e4
      have g2 : W4.drew.cell? ⟨bg,og + n * 5 + 2,none⟩ = some (.int .i64 y2) := g2
      have g3 : W4.drew.cell? ⟨bg,og + n * 5 + 3,none⟩ = some (.int .i64 y3) := g3
      have g4 : W4.drew.cell? ⟨bg,og + n * 5 + 4,none⟩ = some (.slice B4 y4.length d4) := g4
      go_upto_region 11 with fail
      refine start_ (n:=12) (S:=fun w' => w'.cell? ⟨be,oe + n * 5 + 2,none⟩ = some (.int .i64 x2) ∧ w'.cell? ⟨be,oe + n * 5 + 3,none⟩ = some (.int .i64 x3) ∧ w'.cell? ⟨be,oe + n * 5 + 4,none⟩ = some (.slice A4 x4.length c4) ∧ w'.cell? ⟨bg,og + n * 5 + 2,none⟩ = some (.int .i64 y2) ∧ w'.cell? ⟨bg,og + n * 5 + 3,none⟩ = some (.int .i64 y3) ∧ w'.cell? ⟨bg,og + n * 5 + 4,none⟩ = some (.slice B4 y4.length d4)) (ds := [10]) #[f_,f_,f_,f_,f_,f_,f_,f_,f_,f_,f_,f_] (by kernel_rfl) rfl rfl ⟨e2,e3,e4,g2,g3,g4⟩ (fun hHeld => ?_)
      refine pv_ (i:=0) (N:=some 50) (v:=?_) (a':=?_) rfl rfl (by kernel_rfl) (fun _ _ _ h => h) (Or.inl ⟨by rfl,?_⟩) ?_ ?_
      rotate_left;intro w';go_simp;with_reducible rfl;rotate_left;simp only [Act.put,sA_,sB_,sC_,i64_w,i32_w];rfl
      refine pv_ (i:=1) (N:=some 51) (v:=?_) (a':=?_) rfl rfl (by kernel_rfl) (fun _ _ _ h => h) (Or.inl ⟨by rfl,?_⟩) ?_ ?_
      rotate_left;intro w';go_simp;with_reducible rfl;rotate_left;simp only [Act.put,sA_,sB_,sC_,i64_w,i32_w];rfl
      refine pv_ (i:=2) (N:=some 52) (v:=?_) (a':=?_) rfl rfl (by kernel_rfl) (fun _ _ _ h => h) (Or.inl ⟨by rfl,?_⟩) ?_ ?_
      rotate_left;intro w';go_simp;with_reducible rfl;rotate_left;simp only [Act.put,sA_,sB_,sC_,i64_w,i32_w];rfl
      refine pv_ (i:=3) (N:=some 53) (v:=?_) (a':=?_) rfl rfl (by kernel_rfl) (fun _ _ _ h => h) (Or.inl ⟨by rfl,?_⟩) ?_ ?_
      rotate_left;intro w';go_simp;with_reducible rfl;rotate_left;simp only [Act.put,sA_,sB_,sC_,i64_w,i32_w];rfl
      refine pv_ (i:=5) (N:=some 55) (v:=?_) (a':=?_) rfl rfl (by kernel_rfl) (fun _ _ _ h => h) (Or.inl ⟨by rfl,?_⟩) ?_ ?_
      rotate_left;intro w';go_simp;with_reducible rfl;rotate_left;simp only [Act.put,sA_,sB_,sC_,i64_w,i32_w];rfl
      refine pv_ (i:=6) (N:=some 56) (v:=?_) (a':=?_) rfl rfl (by kernel_rfl) (fun _ _ _ h => h) (Or.inl ⟨by rfl,?_⟩) ?_ ?_
      rotate_left;intro w';go_simp;with_reducible rfl;rotate_left;simp only [Act.put,sA_,sB_,sC_,i64_w,i32_w];rfl
      refine pv_ (i:=7) (N:=some 57) (v:=?_) (a':=?_) rfl rfl (by kernel_rfl) (fun _ _ _ h => h) (Or.inl ⟨by rfl,?_⟩) ?_ ?_
      rotate_left;intro w';go_simp;with_reducible rfl;rotate_left;simp only [Act.put,sA_,sB_,sC_,i64_w,i32_w];rfl
      refine pv_ (i:=8) (N:=some 58) (v:=?_) (a':=?_) rfl rfl (by kernel_rfl) (fun _ _ _ h => h) (Or.inl ⟨by rfl,?_⟩) ?_ ?_
      rotate_left;intro w';go_simp;with_reducible rfl;rotate_left;simp only [Act.put,sA_,sB_,sC_,i64_w,i32_w];rfl
      refine tv_ (i:=4) (N:=some 54) (v:=?_) (a':=?_) rfl rfl (by kernel_rfl) (fun _ _ _ h => h) (Or.inl ⟨by rfl,?_⟩) hHeld ?_ ?_
      rotate_left;rintro w' ⟨s0,s1,s2,s3,s4,s5⟩;go_simp;with_reducible rfl;rotate_left;simp only [Act.put,sA_,sB_,sC_,i64_w,i32_w];rfl
      refine tv_ (i:=9) (N:=some 59) (v:=?_) (a':=?_) rfl rfl (by kernel_rfl) (fun _ _ _ h => h) (Or.inl ⟨by rfl,?_⟩) hHeld ?_ ?_
      rotate_left;rintro w' ⟨s0,s1,s2,s3,s4,s5⟩;go_simp;with_reducible rfl;rotate_left;simp only [Act.put,sA_,sB_,sC_,i64_w,i32_w];rfl
      refine last_ (i:=10) (N:=some 60) #[t_,t_,t_,t_,t_,t_,t_,t_,t_,t_,t_,f_] rfl rfl (by kernel_rfl) (by decide) (fun K hK => ?_)
      refine goes_ Tryz.func199 (by kernel_rfl) rfl #[.agg #[.int .i64 x2,.int .i64 x3,.slice A4 x4.length c4],.agg #[.int .i64 y2,.int .i64 y3,.slice B4 y4.length d4]] (by rfl) rfl rfl (by simp only [List.map_toArray,List.map_cons,List.map_nil]; rfl) ?_
      refine (HI2.out _ HB4.out.drew.drew).mono ?_
      rintro e w6 ⟨rfl,hb6⟩
      have HB6 := Lib.hid (HB4.out.drew.drew.trans (hb6.mono HB4.out.size))
      refine ⟨_,rfl,?_⟩
      refine hK.out _ _ ?_
      clear hK K
      refine norm_ (a':=?_) ?_ ?_
      rotate_left
      ·show Act.put _ (some 60) _ = _
       simp only [Act.put,sA_,sB_,sC_,i64_w,i32_w]
       rfl
      refine pv_ (i:=11) (N:=some 7) (v:=?_) (a':=?_) rfl rfl (by kernel_rfl) (fun _ _ _ h => h) (Or.inl ⟨by rfl,?_⟩) ?_ ?_
      rotate_left;intro w';go_simp;with_reducible rfl;rotate_left;simp only [Act.put,sA_,sB_,sC_,i64_w,i32_w];rfl
      refine done_ (by kernel_rfl) ?_
      clear hHeld
      by_cases hr3 : r2 = 0
      ·subst hr3
       go_wp2_with fail
       go_roundw
       case rel => exact ⟨n + 1,by omega,by go_num,by omega,Lib.hid (by rw [HE.out,HST.out,HP.out]; simp),HB6⟩
       case measure => simp [intOf]; omega
      ·have hr4 : (r2 == 0) = false := by simpa using hr3
       go_wp2_with fail
       go_ret
       exact ⟨by rw [HE.out,HST.out,HP.out]; simp [hr3],HB6.out⟩
     ·have hr1 : (r1 == 0) = false := by simpa using hr0
      go_wp2_with fail
      go_ret
      exact ⟨by rw [HE.out,HST.out,HP.out]; simp [hr0],HB4.out.drew⟩
   ·have i3 : (b.length : Int) ≤ (n : Int) := by omega
    have i2 : (n : Int) < (a.length : Int) := by omega
    have HF := Lib.hid (cmpI_ok a.length b.length wr)
    obtain ⟨r0,hr0⟩ : ∃ z,z = cmpI a.length b.length := ⟨_,rfl⟩
    rw [← hr0] at HF
    have HR0 := Lib.hid hr0
    clear hr0
    go_wp2_with fail
    refine HF.out.mono ?_
    rintro e W9 ⟨rfl,rfl⟩
    dsimp only
    go_wp2_with fail
    go_ret
    exact ⟨by rw [HE.out,lexC_fin hn hnb (by omega),← HR0.out]; rfl,HBr.out⟩
  ·have i2 : (a.length : Int) ≤ (n : Int) := by omega
   have HF := Lib.hid (cmpI_ok a.length b.length wr)
   obtain ⟨r0,hr0⟩ : ∃ z,z = cmpI a.length b.length := ⟨_,rfl⟩
   rw [← hr0] at HF
   have HR0 := Lib.hid hr0
   clear hr0
   go_wp2_with fail
   refine HF.out.mono ?_
   rintro e W9 ⟨rfl,rfl⟩
   dsimp only
   go_wp2_with fail
   go_ret
   exact ⟨by rw [HE.out,lexC_fin hn hnb (by omega),← HR0.out]; rfl,HBr.out⟩
end Go.Proofs.YtjojbhkgdkcaoaaGreat
namespace Go.Proofs.YtjojbhkgdkcaoaaGreat
open Go Go.RowKit Go.Bh Go.Shelf Go.Proofs.YtjojbhkgdkcaoaaGreatW.PrintLast
theorem terms_cmp {w : World} {a b : List Tm} {va vb : Value} (ha : Ts w a va) (hb : Ts w b vb) : Calls Tryz.prog 111 #[va,vb,.func (.func 112) #[] #[]] w fun e w' => e = .returned (.int .i64 (lexC cmpT a b)) ∧ Below w.heap.size w w' :=
 lists111_ok fnIs112 cmpT ha hb fun i x0 x1 x2 y0 y1 y2 hx hy W A2 B2 c2 d2 hB p q => cmpT_ok (.mk x0 x1 x2) (.mk y0 y1 y2) W _ _ p q
theorem cmpL_ok (g h : Int) (x y : List Tm) (w : World) (u v : Value) (hu : Ts w x u) (hv : Ts w y v) :
  Calls Tryz.prog 32 #[.agg #[.int .i64 g,u],.agg #[.int .i64 h,v]] w fun e w' => e = .returned (.int .i64 (cmpL ⟨g,x⟩ ⟨h,y⟩)) ∧ Below w.heap.size w w' := by
 obtain ⟨A,c,rfl,_,_⟩ := VAt.slice hu
 obtain ⟨B,d,rfl,_,_⟩ := VAt.slice hv
 obtain ⟨res,hres⟩ : ∃ z,z = cmpL ⟨g,x⟩ ⟨h,y⟩ := ⟨_,rfl⟩
 rw [← hres]
 have HRES : Hid (res = orI [cmpI g h,lexC cmpT x y]) := Lib.hid hres
 clear hres
 obtain ⟨r1,hr1⟩ : ∃ z,z = cmpI g h := ⟨_,rfl⟩
 obtain ⟨r2,hr2⟩ : ∃ z,z = lexC cmpT x y := ⟨_,rfl⟩
 have HQ : Hid (InR r1 ∧ InR r2) := Lib.hid ⟨by rw [hr1]; exact cmpI_rng _ _,by rw [hr2]; exact lexC_rng cmpT_rng _ _⟩
 obtain ⟨W1,hW1⟩ : ∃ z,z = (w.alloc (.cells #[.int .i64 g,.slice A x.length c] 54)).alloc (.cells #[.int .i64 h,.slice B y.length d] 54) := ⟨_,rfl⟩
 have hz1 : W1.heap.size = w.heap.size + 2 := by rw [hW1]; simp
 have hb1 : Below w.heap.size w W1 := by rw [hW1]; exact ((Below.refl _ w).alloc (Nat.le_refl _) _).alloc (by simp) _
 have a0 : W1.cell? ⟨w.heap.size,0,none⟩ = some (.int .i64 g) := by rw [hW1]; go_simp
 have a1 : W1.cell? ⟨w.heap.size,1,none⟩ = some (.slice A x.length c) := by rw [hW1]; go_simp
 have b0 : W1.cell? ⟨w.heap.size + 1,0,none⟩ = some (.int .i64 h) := by rw [hW1]; go_simp
 have b1 : W1.cell? ⟨w.heap.size + 1,1,none⟩ = some (.slice B y.length d) := by rw [hW1]; go_simp
 have HB1 := Lib.hid hb1
 have HW1 := Lib.hid hW1
 have HC1 := Lib.hid (cmpI_ok g h W1.drew)
 have HC2 := Lib.hid (terms_cmp (drew_t (hu.below hb1)) (drew_t (hv.below hb1)))
 rw [← hr1,← hr2] at HRES
 rw [← hr1] at HC1
 rw [← hr2] at HC2
 clear hr1 hr2 hu hv hb1 hW1 hz1
 go_enter Tryz.func32,Tryz.ntmps32
 go_upto_region 1 with fail
 rw [← HW1.out]
 refine start_ (n:=13) (S:=fun w' => w'.cell? ⟨w.heap.size,0,none⟩ = some (.int .i64 g) ∧ w'.cell? ⟨w.heap.size,1,none⟩ = some (.slice A x.length c) ∧ w'.cell? ⟨w.heap.size + 1,0,none⟩ = some (.int .i64 h) ∧ w'.cell? ⟨w.heap.size + 1,1,none⟩ = some (.slice B y.length d)) (ds := []) #[f_,f_,f_,f_,f_,f_,f_,f_,f_,f_,f_,f_,f_] (by kernel_rfl) rfl rfl ⟨a0,a1,b0,b1⟩ (fun hHeld => ?_)
 refine pv_ (i:=0) (N:=some 5) (v:=?_) (a':=?_) rfl rfl (by kernel_rfl) (fun _ _ _ h => h) (Or.inl ⟨by rfl,?_⟩) ?_ ?_
 rotate_left;intro w';go_simp;with_reducible rfl;rotate_left;simp only [Act.put,sA_,sB_,sC_,i64_w,i32_w];rfl
 refine pv_ (i:=2) (N:=some 7) (v:=?_) (a':=?_) rfl rfl (by kernel_rfl) (fun _ _ _ h => h) (Or.inl ⟨by rfl,?_⟩) ?_ ?_
 rotate_left;intro w';go_simp;with_reducible rfl;rotate_left;simp only [Act.put,sA_,sB_,sC_,i64_w,i32_w];rfl
 refine pv_ (i:=5) (N:=some 10) (v:=?_) (a':=?_) rfl rfl (by kernel_rfl) (fun _ _ _ h => h) (Or.inl ⟨by rfl,?_⟩) ?_ ?_
 rotate_left;intro w';go_simp;with_reducible rfl;rotate_left;simp only [Act.put,sA_,sB_,sC_,i64_w,i32_w];rfl
 refine pv_ (i:=7) (N:=some 12) (v:=?_) (a':=?_) rfl rfl (by kernel_rfl) (fun _ _ _ h => h) (Or.inl ⟨by rfl,?_⟩) ?_ ?_
 rotate_left;intro w';go_simp;with_reducible rfl;rotate_left;simp only [Act.put,sA_,sB_,sC_,i64_w,i32_w];rfl
 refine tv_ (i:=1) (N:=some 6) (v:=?_) (a':=?_) rfl rfl (by kernel_rfl) (fun _ _ _ h => h) (Or.inl ⟨by rfl,?_⟩) hHeld ?_ ?_
 rotate_left;rintro w' ⟨s0,s1,s2,s3⟩;go_simp;with_reducible rfl;rotate_left;simp only [Act.put,sA_,sB_,sC_,i64_w,i32_w];rfl
 refine tv_ (i:=3) (N:=some 8) (v:=?_) (a':=?_) rfl rfl (by kernel_rfl) (fun _ _ _ h => h) (Or.inl ⟨by rfl,?_⟩) hHeld ?_ ?_
 rotate_left;rintro w' ⟨s0,s1,s2,s3⟩;go_simp;with_reducible rfl;rotate_left;simp only [Act.put,sA_,sB_,sC_,i64_w,i32_w];rfl
 refine tv_ (i:=6) (N:=some 11) (v:=?_) (a':=?_) rfl rfl (by kernel_rfl) (fun _ _ _ h => h) (Or.inl ⟨by rfl,?_⟩) hHeld ?_ ?_
 rotate_left;rintro w' ⟨s0,s1,s2,s3⟩;go_simp;with_reducible rfl;rotate_left;simp only [Act.put,sA_,sB_,sC_,i64_w,i32_w];rfl
 refine tv_ (i:=8) (N:=some 13) (v:=?_) (a':=?_) rfl rfl (by kernel_rfl) (fun _ _ _ h => h) (Or.inl ⟨by rfl,?_⟩) hHeld ?_ ?_
 rotate_left;rintro w' ⟨s0,s1,s2,s3⟩;go_simp;with_reducible rfl;rotate_left;simp only [Act.put,sA_,sB_,sC_,i64_w,i32_w];rfl
 refine one_ (i:=4) (N:=some 9) #[t_,t_,t_,t_,t_,t_,t_,t_,t_,f_,f_,f_,f_] rfl rfl (by kernel_rfl) (by decide) (fun K hK => ?_)
 refine goes_ Tryz.func114 (by kernel_rfl) rfl #[.int .i64 g,.int .i64 h] (by rfl) rfl rfl (by simp only [List.map_toArray,List.map_cons,List.map_nil]; rfl) ?_
 refine HC1.out.mono ?_
 rintro e w2 ⟨rfl,rfl⟩
 refine ⟨_,rfl,?_⟩
 refine hK.out _ _ ⟨hHeld.1,hHeld.2.1,hHeld.2.2.1,hHeld.2.2.2⟩ (fun hHeld => ?_)
 clear hK K
 refine norm_ (a':=?_) ?_ ?_
 rotate_left
 ·show Act.put _ (some 9) _ = _
  simp only [Act.put,sA_,sB_,sC_,i64_w,i32_w]
  rfl
 refine one_ (i:=9) (N:=some 14) #[t_,t_,t_,t_,t_,t_,t_,t_,t_,t_,f_,f_,f_] rfl rfl (by kernel_rfl) (by decide) (fun K hK => ?_)
 refine goes_ Tryz.func111 (by kernel_rfl) rfl #[.slice A x.length c,.slice B y.length d,.func (.func 112) #[] #[]] (by rfl) rfl rfl (by simp only [List.map_toArray,List.map_cons,List.map_nil]; rfl) ?_
 refine HC2.out.mono ?_
 rintro e w3 ⟨rfl,hb3⟩
 have HIS := Lib.hid (is_two w3 r1 r2 HQ.out.1 HQ.out.2)
 have HB3 : Hid (Below w.heap.size w w3) := Lib.hid ((HB1.out.drew).trans (hb3.mono HB1.out.size))
 refine ⟨_,rfl,?_⟩
 refine hK.out _ _ ⟨(Below.cellOf hb3 hHeld.1),(Below.cellOf hb3 hHeld.2.1),(Below.cellOf hb3 hHeld.2.2.1),(Below.cellOf hb3 hHeld.2.2.2)⟩ (fun hHeld => ?_)
 clear hK K
 refine norm_ (a':=?_) ?_ ?_
 rotate_left
 ·show Act.put _ (some 14) _ = _
  simp only [Act.put,sA_,sB_,sC_,i64_w,i32_w]
  rfl
 refine one_ (i:=10) (N:=some 15) #[t_,t_,t_,t_,t_,t_,t_,t_,t_,t_,t_,f_,f_] rfl rfl (by kernel_rfl) (by decide) (fun K hK => ?_)
 refine value_ (w1:=?_) (v:=?_) (by rfl) rfl ?_ ?_
 rotate_left 2
 ·go_simp
  constructor
  ·rfl
  ·rfl
 refine hK.out _ _ ⟨(ca hHeld.1 _),(ca hHeld.2.1 _),(ca hHeld.2.2.1 _),(ca hHeld.2.2.2 _)⟩ (fun hHeld => ?_)
 clear hK K
 refine norm_ (a':=?_) ?_ ?_
 rotate_left
 ·show Act.put _ (some 15) _ = _
  simp only [Act.put,sA_,sB_,sC_,i64_w,i32_w]
  rfl
 refine one_ (i:=11) (N:=some 16) #[t_,t_,t_,t_,t_,t_,t_,t_,t_,t_,t_,t_,f_] rfl rfl (by kernel_rfl) (by decide) (fun K hK => ?_)
 refine goes_ Tryz.func106 (by kernel_rfl) rfl #[.slice (some ⟨w3.heap.size,0,none⟩) 2 2] (by rfl) rfl rfl (by simp only [List.map_toArray,List.map_cons,List.map_nil]; rfl) ?_
 refine (orI_ok [r1,r2] _ _ HIS.out).mono ?_
 rintro e w4 ⟨rfl,rfl⟩
 refine ⟨_,rfl,?_⟩
 refine hK.out _ _ ⟨hHeld.1,hHeld.2.1,hHeld.2.2.1,hHeld.2.2.2⟩ (fun hHeld => ?_)
 clear hK K
 refine norm_ (a':=?_) ?_ ?_
 rotate_left
 ·show Act.put _ (some 16) _ = _
  simp only [Act.put,sA_,sB_,sC_,i64_w,i32_w]
  rfl
 refine pv_ (i:=12) (N:=some 4) (v:=?_) (a':=?_) rfl rfl (by kernel_rfl) (fun _ _ _ h => h) (Or.inl ⟨by rfl,?_⟩) ?_ ?_
 rotate_left;intro w';go_simp;with_reducible rfl;rotate_left;simp only [Act.put,sA_,sB_,sC_,i64_w,i32_w];rfl
 refine done_ (by kernel_rfl) ?_
 clear hHeld
 go_wp2_with fail
 go_ret
 exact ⟨by rw [HRES.out]; rfl,(HB3.out.alloc HB3.out.size _)⟩
theorem sameL_ok (g h : Int) (x y : List Tm) (w : World) (u v : Value) (hu : Ts w x u) (hv : Ts w y v) :
  Calls Tryz.prog 35 #[.agg #[.int .i64 g,u],.agg #[.int .i64 h,v]] w fun e w' => e = .returned (.bool (cmpL ⟨g,x⟩ ⟨h,y⟩ == 0)) ∧ Below w.heap.size w w' := by
 obtain ⟨A,c,rfl,_,_⟩ := VAt.slice hu
 obtain ⟨B,d,rfl,_,_⟩ := VAt.slice hv
 have hb : ∀ o o',Below w.heap.size w ((w.alloc o).alloc o') := fun o o' => ((Below.refl _ w).alloc (Nat.le_refl _) _).alloc (by simp) _
 have HC := Lib.hid (fun o o' => cmpL_ok g h x y ((w.alloc o).alloc o') _ _ (hu.below (hb o o')) (hv.below (hb o o')))
 have HB := Lib.hid hb
 clear hu hv hb
 obtain ⟨r,hr⟩ : ∃ z,z = cmpL ⟨g,x⟩ ⟨h,y⟩ := ⟨_,rfl⟩
 rw [← hr] at HC ⊢
 clear hr
 go_enter Tryz.func35,Tryz.ntmps35
 go_wp2_with fail
 refine (HC.out _ _).mono ?_
 rintro e w5 ⟨rfl,hb5⟩
 have HB5 := Lib.hid hb5
 clear hb5
 dsimp only
 go_wp2_with fail
 go_ret
 exact ⟨rfl,(HB.out _ _).trans (HB5.out.mono (by simp; omega))⟩
end Go.Proofs.YtjojbhkgdkcaoaaGreat
