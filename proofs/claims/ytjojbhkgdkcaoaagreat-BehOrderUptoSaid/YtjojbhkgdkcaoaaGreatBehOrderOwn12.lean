/- A part of the proof: texts of this session, joined. -/
import Derived.Test.YtjojbhkgdkcaoaaGreatBehOrderOwn11
import Derived.Test.YtjojbhkgdkcaoaaGreatBehOrderOwn9
import Derived.Test.YtjojbhkgdkcaoaaGreatPart4
import Derived.Test.YtjojbhkgdkcaoaaGreatChecked
import Derived.Test.YtjojbhkgdkcaoaaGreatRows
import Derived.JoinedCond
import Derived.Test.YtjojbhkgdkcaoaaGreatShort
set_option linter.unusedSimpArgs false
set_option linter.unusedVariables false
set_option maxHeartbeats 25600000
set_option maxRecDepth 100000
namespace Go.Proofs.YtjojbhkgdkcaoaaGreat
open Go Go.RowKit Go.Bh Go.Shelf Go.Proofs.YtjojbhkgdkcaoaaGreatW.PrintLast
theorem grown_low {lb : Nat} {w w' : World} (h : w.grownBy w' (some lb)) (hl : lb ≤ w.heap.size) : Below lb w w' :=
 ⟨h.os,h.tape,h.output,h.size,fun k hk => h.block k (by omega) (fun e => by injection e with e; omega)⟩
theorem rows3 {P : Nat → Prop} {W : World} {g : Nat} {l1 l2 l3 : List Tm} {u1 u2 u3 : Value} (h : W.heap[g]? = some (.cells #[u1,u2,u3] 25)) (hg : P g) (h1 : TsP P W l1 u1) (h2 : TsP P W l2 u2) (h3 : TsP P W l3 u3) : VAt P W (.row 3 (rowsT [l1,l2,l3])) (.slice (some ⟨g,0,none⟩) 3 3) :=
 ⟨_,3,rfl,Nat.le_refl _,by unfold maxLen; omega,.inr ⟨g,0,rfl,hg,⟨_,cell_at h 0 rfl,h1⟩,⟨_,cell_at h 1 rfl,h2⟩,⟨_,cell_at h 2 rfl,h3⟩,trivial⟩⟩
theorem TsP.move {P P' : Nat → Prop} {w w' : World} {l : List Tm} {v : Value} (h : TsP P w l v) (hb : Below w.heap.size w w') (hP : ∀ b,P b → b < w.heap.size → P' b) : TsP P' w' l v :=
 VAt.keep (fun b o u hb2 hc => ⟨hP b hb2.1 hb2.2,(hb.cell (p := ⟨b,o,none⟩) hb2.2).trans hc⟩) (fun b hb2 => hP b hb2.1 hb2.2) _ _ (VAt.tight _ _ h)
theorem Box.below {lb : Nat} {w w' : World} {y : Int} (h : Box w lb y) (hb : Below w.heap.size w w') : Box w' lb y := by
 have hlt := World.block_lt_of_cell? w _ h.cell
 have hk := hb.block lb hlt
 exact ⟨(World.cell?_of_block (a := ⟨lb,0,none⟩) hk).trans h.cell,(World.frozen?_of_block (a := ⟨lb,0,none⟩) hk).trans h.frozen,h.rng⟩
theorem count_any : ∀ (b : Be) (w : World) (v : Value) (lb : Nat) (c d : Int),szB b ≤ 1048576 → BV (· < lb) w b v → Box w lb c → InR d →
  Calls Tryz.prog 77 #[v,.pointer (some ⟨lb,0,none⟩),.int .i64 d] w fun e w' => AnyB e ∧ (∃ y,Box w' lb y) ∧ Below lb w w' := by
 refine Be.ind fun kind n gate lo hi gates offers conds sorts t l ih w v lb c d hsz hv hb hd => ?_
 rw [szB,szBs_eq] at hsz
 have hol := sumN_len szO_pos offers
 have hcl := sumN_len szP_pos conds
 have htl := sumN_len szT_pos t
 have hll := sumN_len szB_pos l
 obtain ⟨vg,vo,vc,vs,vt,vl,rfl,g0,g1,g2,g3,g4,g5⟩ := hv
 obtain ⟨A0,c0,rfl,_,_⟩ := VAt.slice g0
 obtain ⟨A1,c1,rfl,_,q1⟩ := VAt.slice g1
 obtain ⟨A2,c2,rfl,_,q2⟩ := VAt.slice g2
 obtain ⟨A3,c3,rfl,_,_⟩ := VAt.slice g3
 obtain ⟨A4,c4,rfl,_,_⟩ := VAt.slice g4
 obtain ⟨A5,c5,rfl,_,_⟩ := VAt.slice g5
 dsimp only [Be.kind,Be.n,Be.gate,Be.lo,Be.hi,Be.gates,Be.offers,Be.conds,Be.sorts,Be.t,Be.l] at *
 have hlb : lb < w.heap.size := World.block_lt_of_cell? w _ hb.cell
 have hbc := hb.cell
 have hbf := hb.frozen
 obtain ⟨W1,hW1⟩ : ∃ y,y = w.alloc (.cells #[.int .i64 kind,.int .i64 n,.int .i64 gate,.int .i64 lo,.int .i64 hi,.slice A0 gates.length c0,.slice A1 offers.length c1,.slice A2 conds.length c2,.slice A3 sorts.length c3,.slice A4 t.length c4,.slice A5 l.length c5] 28) := ⟨_,rfl⟩
 have hz1 : W1.heap.size = w.heap.size + 1 := by rw [hW1]; simp
 have hb1 : Below w.heap.size w W1 := by rw [hW1]; exact (Below.refl _ w).alloc (Nat.le_refl _) _
 have k1 : W1.heap[w.heap.size]? = some (.cells #[.int .i64 kind,.int .i64 n,.int .i64 gate,.int .i64 lo,.int .i64 hi,.slice A0 gates.length c0,.slice A1 offers.length c1,.slice A2 conds.length c2,.slice A3 sorts.length c3,.slice A4 t.length c4,.slice A5 l.length c5] 28) := by rw [hW1]; exact World.alloc_heap_new w _
 have hx1 : Box W1 lb c := hb.below hb1
 have hyc := hx1.cell
 have hyf := hx1.frozen
 have f5 := cell_at k1 5 rfl
 have f8 := cell_at k1 8 rfl
 have HG : Hid (BV (· < lb) w (.mk kind n gate lo hi gates offers conds sorts t l) (.agg #[.int .i64 kind,.int .i64 n,.int .i64 gate,.int .i64 lo,.int .i64 hi,.slice A0 gates.length c0,.slice A1 offers.length c1,.slice A2 conds.length c2,.slice A3 sorts.length c3,.slice A4 t.length c4,.slice A5 l.length c5])) := Lib.hid ⟨_,_,_,_,_,_,rfl,g0,g1,g2,g3,g4,g5⟩
 have HL := Lib.hid g5
 have HB1 := Lib.hid hb1
 have K1 := Lib.hid k1
 have HD := Lib.hid hd
 have IH := Lib.hid ih
 have HSZ := Lib.hid hsz
 have hne : ¬ w.heap.size = lb := by omega
 clear ih hd hb hbc hbf hx1 g0 g1 g2 g3 g4 g5 hb1 k1
 go_enter Tryz.func77,Tryz.ntmps77
 go_upto_region 1 with fail
 rw [← hW1]
 clear hW1
 refine start_ (n:=14) (S:=fun w' => w'.cell? ⟨lb,0,none⟩ = some (.int .i64 c) ∧ w'.cell? ⟨w.heap.size,5,none⟩ = some (.slice A0 gates.length c0) ∧ w'.cell? ⟨w.heap.size,8,none⟩ = some (.slice A3 sorts.length c3)) (ds := [13]) #[f_,f_,f_,f_,f_,f_,f_,f_,f_,f_,f_,f_,f_,f_] (by kernel_rfl) rfl rfl ⟨hyc,f5,f8⟩ (fun hHeld => ?_)
 refine pv_ (i:=0) (N:=some 12) (v:=?_) (a':=?_) rfl rfl (by kernel_rfl) (fun _ _ _ h => h) (Or.inl ⟨by rfl,?_⟩) ?_ ?_
 rotate_left;intro w';go_simp;with_reducible rfl;rotate_left;simp only [Act.put,sA_,sB_,sC_,i64_w,i32_w];rfl
 refine pv_ (i:=1) (N:=some 13) (v:=?_) (a':=?_) rfl rfl (by kernel_rfl) (fun _ _ _ h => h) (Or.inl ⟨by rfl,?_⟩) ?_ ?_
 rotate_left;intro w';go_simp;with_reducible rfl;rotate_left;simp only [Act.put,sA_,sB_,sC_,i64_w,i32_w];rfl
 refine pv_ (i:=3) (N:=some 15) (v:=?_) (a':=?_) rfl rfl (by kernel_rfl) (fun _ _ _ h => h) (Or.inl ⟨by rfl,?_⟩) ?_ ?_
 rotate_left;intro w';go_simp;with_reducible rfl;rotate_left;simp only [Act.put,sA_,sB_,sC_,i64_w,i32_w];rfl
 refine pv_ (i:=7) (N:=some 19) (v:=?_) (a':=?_) rfl rfl (by kernel_rfl) (fun _ _ _ h => h) (Or.inl ⟨by rfl,?_⟩) ?_ ?_
 rotate_left;intro w';go_simp;with_reducible rfl;rotate_left;simp only [Act.put,sA_,sB_,sC_,i64_w,i32_w];rfl
 refine tv_ (i:=2) (N:=some 14) (v:=?_) (a':=?_) rfl rfl (by kernel_rfl) (fun _ _ _ h => h) (Or.inl ⟨by rfl,?_⟩) hHeld ?_ ?_
 rotate_left;rintro w' ⟨s0,s1,s2⟩;go_simp;with_reducible rfl;rotate_left;simp only [Act.put,sA_,sB_,sC_,i64_w,i32_w];rfl
 refine tv_ (i:=4) (N:=some 16) (v:=?_) (a':=?_) rfl rfl (by kernel_rfl) (fun _ _ _ h => h) (Or.inl ⟨by rfl,?_⟩) hHeld ?_ ?_
 rotate_left;rintro w' ⟨s0,s1,s2⟩;go_simp;with_reducible rfl;rotate_left;simp only [Act.put,sA_,sB_,sC_,i64_w,i32_w];rfl
 refine pv_ (i:=5) (N:=some 17) (v:=?_) (a':=?_) rfl rfl (by kernel_rfl) (fun _ _ _ h => h) (Or.inl ⟨by rfl,?_⟩) ?_ ?_
 rotate_left;intro w';go_simp;with_reducible rfl;rotate_left;simp only [Act.put,sA_,sB_,sC_,i64_w,i32_w];rfl
 refine pv_ (i:=6) (N:=some 18) (v:=?_) (a':=?_) rfl rfl (by kernel_rfl) (fun _ _ _ h => h) (Or.inl ⟨by rfl,?_⟩) ?_ ?_
 rotate_left;intro w';go_simp;with_reducible rfl;rotate_left;simp only [Act.put,sA_,sB_,sC_,i64_w,i32_w];rfl
 refine tv_ (i:=8) (N:=some 20) (v:=?_) (a':=?_) rfl rfl (by kernel_rfl) (fun _ _ _ h => h) (Or.inl ⟨by rfl,?_⟩) hHeld ?_ ?_
 rotate_left;rintro w' ⟨s0,s1,s2⟩;go_simp;with_reducible rfl;rotate_left;simp only [Act.put,sA_,sB_,sC_,i64_w,i32_w];rfl
 refine pv_ (i:=9) (N:=some 21) (v:=?_) (a':=?_) rfl rfl (by kernel_rfl) (fun _ _ _ h => h) (Or.inl ⟨by rfl,?_⟩) ?_ ?_
 rotate_left;intro w';go_simp;with_reducible rfl;rotate_left;simp only [Act.put,sA_,sB_,sC_,i64_w,i32_w];rfl
 refine pv_ (i:=10) (N:=some 22) (v:=?_) (a':=?_) rfl rfl (by kernel_rfl) (fun _ _ _ h => h) (Or.inl ⟨by rfl,?_⟩) ?_ ?_
 rotate_left;intro w';go_simp;with_reducible rfl;rotate_left;simp only [Act.put,sA_,sB_,sC_,i64_w,i32_w];rfl
 refine pv_ (i:=11) (N:=some 23) (v:=?_) (a':=?_) rfl rfl (by kernel_rfl) (fun _ _ _ h => h) (Or.inl ⟨by rfl,?_⟩) ?_ ?_
 rotate_left;intro w';go_simp;with_reducible rfl;rotate_left;simp only [Act.put,sA_,sB_,sC_,i64_w,i32_w];rfl
 refine pv_ (i:=12) (N:=some 24) (v:=?_) (a':=?_) rfl rfl (by kernel_rfl) (fun _ _ _ h => h) (Or.inl ⟨by rfl,?_⟩) ?_ ?_
 rotate_left;intro w';go_simp;with_reducible rfl;rotate_left;simp only [Act.put,sA_,sB_,sC_,i64_w,i32_w];rfl
 refine last_ (i:=13) (N:=none) #[t_,t_,t_,t_,t_,t_,t_,t_,t_,t_,t_,t_,t_,t_] rfl rfl (by kernel_rfl) (by decide) (fun K hK => ?_)
 refine skip_ (w1:=?_) (by rfl) rfl ?_ ?_
 rotate_left
 ·go_simp
  rfl
 refine hK.out _ _ ?_
 clear hK K
 refine done_ (by kernel_rfl) ?_
 clear hHeld
 go_upto_region 2 with fail
 obtain ⟨z,hz⟩ : ∃ z,z = wrap64 (c - wrap64 (wrap64 (1 + (gates.length : Int)) + (sorts.length : Int))) := ⟨_,rfl⟩
 rw [← hz]
 have hzr : InR z := by rw [hz]; exact inR_wrap64 _
 clear hz
 obtain ⟨W2,hW2⟩ : ∃ y,y = (W1.setCell ⟨lb,0,none⟩ (.int .i64 z)).drew := ⟨_,rfl⟩
 rw [← hW2]
 have hz2 : W2.heap.size = w.heap.size + 1 := by rw [hW2]; simp [World.setCell]; exact hz1
 have k2 : W2.heap[w.heap.size]? = some (.cells #[.int .i64 kind,.int .i64 n,.int .i64 gate,.int .i64 lo,.int .i64 hi,.slice A0 gates.length c0,.slice A1 offers.length c1,.slice A2 conds.length c2,.slice A3 sorts.length c3,.slice A4 t.length c4,.slice A5 l.length c5] 28) := by
  rw [hW2]; exact (Below.heap_setCell _ _ _ _ (by simpa using hne)).trans K1.out
 have hb2 : Below lb w W2 := by rw [hW2]; exact ((HB1.out.mono (Nat.le_of_lt hlb)).setCell (p := ⟨lb,0,none⟩) (Nat.le_refl _) _).drew
 have hx2 : Box W2 lb z := by
  have hl1 : lb < W1.heap.size := by omega
  refine ⟨?_,?_,hzr⟩
  ·rw [hW2]; show (W1.setCell ⟨lb,0,none⟩ (.int .i64 z)).cell? ⟨lb,0,none⟩ = _; go_simp
  ·rw [hW2]; show (W1.setCell ⟨lb,0,none⟩ (.int .i64 z)).frozen? ⟨lb,0,none⟩ = _; go_simp
 clear hyc hyf f5 f8 hW2
 have hv2 := BV.low HG.out hb2
 have HT := Lib.hid (terms127_ok _ W2 _ (· < lb) (fun b hb => by omega) hv2 (by show offers.length ≤ _; omega) (by show conds.length ≤ _; omega))
 dsimp only [Be.offers,Be.conds,Be.t] at HT
 have f0 := cell_at k2 0 rfl
 have f1 := cell_at k2 1 rfl
 have f2 := cell_at k2 2 rfl
 have f3 := cell_at k2 3 rfl
 have f4 := cell_at k2 4 rfl
 have f5 := cell_at k2 5 rfl
 have f6 := cell_at k2 6 rfl
 have f7 := cell_at k2 7 rfl
 have f8 := cell_at k2 8 rfl
 have f9 := cell_at k2 9 rfl
 have f10 := cell_at k2 10 rfl
 have HB2 := Lib.hid hb2
 have HX2 := Lib.hid hx2
 have K2 := Lib.hid k2
 clear hb2 hx2 k2 hv2
 go_wp2_with fail
 refine HT.out.mono ?_
 rintro e W3 ⟨⟨x,y,u,rfl,hx,hy,hu⟩,hb3⟩
 obtain ⟨X,xc,rfl,_,_⟩ := VAt.slice hx
 obtain ⟨Y,yc,rfl,_,_⟩ := VAt.slice hy
 obtain ⟨U,uc,rfl,_,_⟩ := VAt.slice hu
 rw [List.length_map] at hx
 rw [prT_len] at hy
 rw [List.length_map,prT_len]
 have hx3 := HX2.out.below hb3
 have k3 := (hb3.block w.heap.size (by omega)).trans K2.out
 have hz3 := hb3.size
 have HB3 := Lib.hid (HB2.out.trans (hb3.mono (by omega)))
 have HX3 := Lib.hid hx3
 have K3 := Lib.hid k3
 have hyc := hx3.cell
 have f10 := cell_at k3 10 rfl
 have HXs := Lib.hid hx
 have HYs := Lib.hid hy
 have HUs := Lib.hid hu
 clear hx hy hu hb3 hx3 k3 f0 f1 f2 f3 f4 f5 f6 f7 f8 f9
 dsimp only
 have hxl : (offers.map (·.t)).length = offers.length := List.length_map _
 have hyl := prT_len conds
 by_cases hz0 : z < 0
 ·go_wp2_with fail
  go_ret
  exact ⟨⟨_,rfl⟩,⟨_,HX3.out⟩,HB3.out⟩
 ·by_cases hd0 : (250 : Int) < d
  ·go_wp2_with fail
   go_ret
   exact ⟨⟨_,rfl⟩,⟨_,HX3.out⟩,HB3.out⟩
  ·go_wp2_with fail
   obtain ⟨W4,hW4⟩ : ∃ y,y = W3.alloc (.cells #[.slice X offers.length xc,.slice Y (conds.length * 2) yc,.slice U t.length uc] 25) := ⟨_,rfl⟩
   rw [← hW4]
   have hz4 : W4.heap.size = W3.heap.size + 1 := by rw [hW4]; simp
   have hb4 : Below W3.heap.size W3 W4 := by rw [hW4]; exact (Below.refl _ _).alloc (Nat.le_refl _) _
   have k4 : W4.heap[W3.heap.size]? = some (.cells #[.slice X offers.length xc,.slice Y (conds.length * 2) yc,.slice U t.length uc] 25) := by rw [hW4]; exact World.alloc_heap_new W3 _
   have hcat : VAt (fun b => b ≠ lb ∧ b < W4.heap.size) W4 (.row 3 (rowsT [offers.map (·.t),prT conds,t])) (.slice (some ⟨W3.heap.size,0,none⟩) 3 3) :=
    rows3 k4 ⟨by omega,by omega⟩ (TsP.move HXs.out hb4 (fun b h h2 => ⟨by omega,by omega⟩)) (TsP.move HYs.out hb4 (fun b h h2 => ⟨by omega,by omega⟩)) (TsP.move HUs.out hb4 (fun b h h2 => ⟨by omega,by omega⟩))
   have HC4 := Lib.hid (concat36_ok [offers.map (·.t),prT conds,t] W4 _ _ (fun b hb => hb.2) hcat (by simp only [List.flatten_cons,List.flatten_nil,List.length_append,hxl,hyl,List.length_nil]; omega) (by simp))
   have HB4 := Lib.hid hb4
   clear hcat k4 hb4 hW4
   refine HC4.out.mono ?_
   rintro e W5 ⟨⟨v5,rfl,hv5⟩,hb5⟩
   obtain ⟨V5,vc5,rfl,_,_⟩ := VAt.slice hv5
   have HV5 := Lib.hid hv5
   have hbx : Below W3.heap.size W3 W5 := HB4.out.trans (hb5.mono (by omega))
   have hz5 := hbx.size
   have HB5 := Lib.hid (HB3.out.trans (hbx.mono (by omega)))
   have HX5 := Lib.hid (HX3.out.below hbx)
   have k5 := (hbx.block w.heap.size (by omega)).trans K3.out
   have K5 := Lib.hid k5
   have f10 := cell_at k5 10 rfl
   have hn5 : TsP (· ≠ lb) W5 [offers.map (·.t),prT conds,t].flatten (.slice V5 [offers.map (·.t),prT conds,t].flatten.length vc5) := TsP.mono hv5 (fun b hb => by rcases hb with h | h; exact h.1; omega)
   obtain ⟨ls,hls⟩ : ∃ z,z = [offers.map (·.t),prT conds,t].flatten := ⟨_,rfl⟩
   rw [← hls] at hn5 HV5 ⊢
   have HN5 := Lib.hid (nodes_any ls W5 _ lb z 1 hn5 (HX3.out.below hbx) (by unfold InR; omega))
   clear k5 hv5 hb5 hn5 hls
   dsimp only
   go_wp2_with fail
   refine HN5.out.mono ?_
   rintro e W6 ⟨⟨r,rfl⟩,⟨y6,hx6⟩,hg6⟩
   have hz6 := hg6.size
   have HB6 := Lib.hid (HB5.out.trans (grown_low hg6 (by omega)))
   have HX6 := Lib.hid hx6
   have k6 := (hg6.block w.heap.size (by omega) (by simpa using hne)).trans K5.out
   have K6 := Lib.hid k6
   have f10 := cell_at k6 10 rfl
   clear hx6 hg6 k6
   dsimp only
   cases r
   ·go_wp2_with fail
    go_ret
    exact ⟨⟨_,rfl⟩,⟨_,HX6.out⟩,HB6.out⟩
   ·go_wp2_with fail
    go_loopw [52] (fun i wr => ∃ m : Nat,m ≤ l.length ∧ i = .int .i64 m ∧ Hid (∃ y,Box wr lb y) ∧ Hid (Below lb w wr)) (fun i _ => l.length - (intOf i).toNat)
    case atStart => exact ⟨0,Nat.zero_le _,rfl,Lib.hid ⟨_,HX6.out⟩,HB6⟩
    case round =>
     obtain ⟨m,hm,rfl,HY,HB⟩ := hrel
     obtain ⟨y,hy⟩ := HY.out
     by_cases hlt : m < l.length
     ·obtain ⟨b,hx⟩ : ∃ c,l[m]? = some c := ⟨_,List.getElem?_eq_getElem hlt⟩
      have hIH := IH.out b (List.mem_of_getElem? hx)
      have hbs : szB b ≤ 1048576 := by have := sumN_mem (f := szB) (List.mem_of_getElem? hx); omega
      obtain ⟨x0,x1,x2,x3,x4,x5,x6,x7,x8,x9,x10⟩ := b
      obtain ⟨bb,bo,B5,d5,B6,d6,B7,d7,B8,d8,B9,d9,B10,d10,rfl,hp,e0,e1,e2,e3,e4,e5,e6,e7,e8,e9,e10,_,_,_,_,_,p5,p6,p7,p8,p9,p10⟩ := BsP.get HL.out hx
      have e0 := (HB.out.cell (p := ⟨bb,_,none⟩) hp).trans e0
      have e1 := (HB.out.cell (p := ⟨bb,_,none⟩) hp).trans e1
      have e2 := (HB.out.cell (p := ⟨bb,_,none⟩) hp).trans e2
      have e3 := (HB.out.cell (p := ⟨bb,_,none⟩) hp).trans e3
      have e4 := (HB.out.cell (p := ⟨bb,_,none⟩) hp).trans e4
      have e5 := (HB.out.cell (p := ⟨bb,_,none⟩) hp).trans e5
      have e6 := (HB.out.cell (p := ⟨bb,_,none⟩) hp).trans e6
      have e7 := (HB.out.cell (p := ⟨bb,_,none⟩) hp).trans e7
      have e8 := (HB.out.cell (p := ⟨bb,_,none⟩) hp).trans e8
      have e9 := (HB.out.cell (p := ⟨bb,_,none⟩) hp).trans e9
      have e10 := (HB.out.cell (p := ⟨bb,_,none⟩) hp).trans e10
      have hlr : lb < wr.heap.size := World.block_lt_of_cell? wr _ hy.cell
      have i1 : (0 : Int) ≤ (m : Int) := by omega
      have i2 : (m : Int) < (l.length : Int) := by omega
      obtain ⟨W8,hW8⟩ : ∃ yy,yy = wr.alloc (.cells #[.int .i64 x0,.int .i64 x1,.int .i64 x2,.int .i64 x3,.int .i64 x4,.slice B5 x5.length d5,.slice B6 x6.length d6,.slice B7 x7.length d7,.slice B8 x8.length d8,.slice B9 x9.length d9,.slice B10 x10.length d10] 28) := ⟨_,rfl⟩
      have hb8 : Below wr.heap.size wr W8 := by rw [hW8]; exact (Below.refl _ _).alloc (Nat.le_refl _) _
      have hw8 : Below lb w W8 := HB.out.trans (hb8.mono (by omega))
      have HI := Lib.hid (hIH W8 _ lb y (wrap64 (d + 1)) hbs ⟨_,_,_,_,_,_,rfl,VAt.below p5 hw8,VAt.below p6 hw8,VAt.below p7 hw8,VAt.below p8 hw8,VAt.below p9 hw8,VAt.below p10 hw8⟩ (hy.below hb8) (inR_wrap64 _))
      dsimp only [Be.kind,Be.n,Be.gate,Be.lo,Be.hi,Be.gates,Be.offers,Be.conds,Be.sorts,Be.t,Be.l] at HI
      have HW8 := Lib.hid hw8
      have HWe := Lib.hid hW8
      clear hx hIH hy hb8 hw8 hW8 p5 p6 p7 p8 p9 p10
      go_wp2_with fail
      rw [← HWe.out]
      refine HI.out.mono ?_
      rintro e W9 ⟨⟨r,rfl⟩,⟨y9,hx9⟩,hb9⟩
      have HX9 := Lib.hid hx9
      have HB9 := Lib.hid (HW8.out.trans hb9)
      clear hx9 hb9
      dsimp only
      cases r
      ·go_wp2_with fail
       go_ret
       exact ⟨⟨_,rfl⟩,⟨_,HX9.out⟩,HB9.out⟩
      ·go_wp2_with fail
       go_roundw
       case rel => exact ⟨m + 1,by omega,by go_num,Lib.hid ⟨_,HX9.out⟩,HB9⟩
       case measure => simp [intOf]; omega
     ·have i2 : (l.length : Int) ≤ (m : Int) := by omega
      go_wp2_with fail
      go_ret
      exact ⟨⟨_,rfl⟩,⟨_,hy⟩,HB.out⟩
end Go.Proofs.YtjojbhkgdkcaoaaGreat
namespace Go.Bh
def encL (x : Lb) : List VT := [.int x.g,.row x.l.length (encTs x.l)]
def encLs (l : List Lb) : List VT := l.flatMap encL
theorem encL_len (x : Lb) : (encL x).length = 2 := rfl
end Go.Bh
namespace Go.Proofs.YtjojbhkgdkcaoaaGreat
open Go Go.RowKit Go.Bh Go.Shelf Go.Proofs.YtjojbhkgdkcaoaaGreatW.PrintLast
theorem small_any (l : List Be) (w : World) (v : Value) (hsz : ∀ b ∈ l,szB b ≤ 1048576) (hv : BsP (fun _ => True) w l v) :
  Calls Tryz.prog 16 #[v] w fun e w' => AnyB e ∧ Below w.heap.size w w' := by
 have hv := BsP.bound hv
 obtain ⟨A,cap,rfl,_,q1⟩ := VAt.slice hv
 unfold maxLen at q1
 obtain ⟨W1,hW1⟩ : ∃ y,y = w.alloc (.cells #[.int .i64 4000] 3) := ⟨_,rfl⟩
 have hz1 : W1.heap.size = w.heap.size + 1 := by rw [hW1]; simp
 have hb1 : Below w.heap.size w W1 := by rw [hW1]; exact (Below.refl _ w).alloc (Nat.le_refl _) _
 have k1 : W1.heap[w.heap.size]? = some (.cells #[.int .i64 4000] 3) := by rw [hW1]; exact World.alloc_heap_new w _
 have hx1 : Box W1 w.heap.size 4000 := ⟨cell_at k1 0 rfl,by simp [World.frozen?,k1],by unfold InR; omega⟩
 have HV := Lib.hid hv
 have HB1 := Lib.hid hb1
 have HX1 := Lib.hid hx1
 have HSZ := Lib.hid hsz
 clear hv hb1 k1 hx1 hsz
 go_enter Tryz.func16,Tryz.ntmps16
 go_wp2_with fail
 rw [← hW1]
 clear hW1
 go_loopw [8] (fun i wr => ∃ m : Nat,m ≤ l.length ∧ i = .int .i64 m ∧ Hid (∃ y,Box wr w.heap.size y) ∧ Hid (Below w.heap.size w wr)) (fun i _ => l.length - (intOf i).toNat)
 case atStart => exact ⟨0,Nat.zero_le _,rfl,Lib.hid ⟨_,HX1.out⟩,HB1⟩
 case round =>
  obtain ⟨m,hm,rfl,HY,HB⟩ := hrel
  obtain ⟨y,hy⟩ := HY.out
  by_cases hlt : m < l.length
  ·obtain ⟨b,hx⟩ : ∃ c,l[m]? = some c := ⟨_,List.getElem?_eq_getElem hlt⟩
   have hbs : szB b ≤ 1048576 := HSZ.out b (List.mem_of_getElem? hx)
   obtain ⟨x0,x1,x2,x3,x4,x5,x6,x7,x8,x9,x10⟩ := b
   obtain ⟨bb,bo,B5,d5,B6,d6,B7,d7,B8,d8,B9,d9,B10,d10,rfl,hp,e0,e1,e2,e3,e4,e5,e6,e7,e8,e9,e10,_,_,_,_,_,p5,p6,p7,p8,p9,p10⟩ := BsP.get HV.out hx
   have e0 := (HB.out.cell (p := ⟨bb,_,none⟩) hp).trans e0
   have e1 := (HB.out.cell (p := ⟨bb,_,none⟩) hp).trans e1
   have e2 := (HB.out.cell (p := ⟨bb,_,none⟩) hp).trans e2
   have e3 := (HB.out.cell (p := ⟨bb,_,none⟩) hp).trans e3
   have e4 := (HB.out.cell (p := ⟨bb,_,none⟩) hp).trans e4
   have e5 := (HB.out.cell (p := ⟨bb,_,none⟩) hp).trans e5
   have e6 := (HB.out.cell (p := ⟨bb,_,none⟩) hp).trans e6
   have e7 := (HB.out.cell (p := ⟨bb,_,none⟩) hp).trans e7
   have e8 := (HB.out.cell (p := ⟨bb,_,none⟩) hp).trans e8
   have e9 := (HB.out.cell (p := ⟨bb,_,none⟩) hp).trans e9
   have e10 := (HB.out.cell (p := ⟨bb,_,none⟩) hp).trans e10
   have hlr : w.heap.size < wr.heap.size := World.block_lt_of_cell? wr _ hy.cell
   have i1 : (0 : Int) ≤ (m : Int) := by omega
   have i2 : (m : Int) < (l.length : Int) := by omega
   obtain ⟨W8,hW8⟩ : ∃ yy,yy = wr.alloc (.cells #[.int .i64 x0,.int .i64 x1,.int .i64 x2,.int .i64 x3,.int .i64 x4,.slice B5 x5.length d5,.slice B6 x6.length d6,.slice B7 x7.length d7,.slice B8 x8.length d8,.slice B9 x9.length d9,.slice B10 x10.length d10] 28) := ⟨_,rfl⟩
   have hb8 : Below wr.heap.size wr W8 := by rw [hW8]; exact (Below.refl _ _).alloc (Nat.le_refl _) _
   have hw8 : Below w.heap.size w W8 := HB.out.trans (hb8.mono (by omega))
   have HI := Lib.hid (count_any _ W8 _ w.heap.size y 1 hbs ⟨_,_,_,_,_,_,rfl,VAt.below p5 hw8,VAt.below p6 hw8,VAt.below p7 hw8,VAt.below p8 hw8,VAt.below p9 hw8,VAt.below p10 hw8⟩ (hy.below hb8) (by unfold InR; omega))
   dsimp only [Be.kind,Be.n,Be.gate,Be.lo,Be.hi,Be.gates,Be.offers,Be.conds,Be.sorts,Be.t,Be.l] at HI
   have HW8 := Lib.hid hw8
   have HWe := Lib.hid hW8
   clear hx hy hb8 hw8 hW8 p5 p6 p7 p8 p9 p10
   go_wp2_with fail
   rw [← HWe.out]
   refine HI.out.mono ?_
   rintro e W9 ⟨⟨r,rfl⟩,⟨y9,hx9⟩,hb9⟩
   have HX9 := Lib.hid hx9
   have HB9 := Lib.hid (HW8.out.trans hb9)
   clear hx9 hb9
   dsimp only
   cases r
   ·go_wp2_with fail
    go_ret
    exact ⟨⟨_,rfl⟩,HB9.out⟩
   ·go_wp2_with fail
    go_roundw
    case rel => exact ⟨m + 1,by omega,by go_num,Lib.hid ⟨_,HX9.out⟩,HB9⟩
    case measure => simp [intOf]; omega
  ·have i2 : (l.length : Int) ≤ (m : Int) := by omega
   go_wp2_with fail
   go_ret
   exact ⟨⟨_,rfl⟩,HB.out⟩
theorem labels_any (l : List Lb) (w : World) (v : Value) (hv : Vt w (.row l.length (encLs l)) v) :
  Calls Tryz.prog 30 #[v] w fun e w' => AnyB e ∧ Below w.heap.size w w' := by
 have hv := Vt.bound hv
 obtain ⟨A,cap,rfl,_,q1⟩ := VAt.slice hv
 unfold maxLen at q1
 obtain ⟨W1,hW1⟩ : ∃ y,y = w.alloc (.cells #[.int .i64 2000] 3) := ⟨_,rfl⟩
 have hz1 : W1.heap.size = w.heap.size + 1 := by rw [hW1]; simp
 have hb1 : Below w.heap.size w W1 := by rw [hW1]; exact (Below.refl _ w).alloc (Nat.le_refl _) _
 have k1 : W1.heap[w.heap.size]? = some (.cells #[.int .i64 2000] 3) := by rw [hW1]; exact World.alloc_heap_new w _
 have hx1 : Box W1 w.heap.size 2000 := ⟨cell_at k1 0 rfl,by simp [World.frozen?,k1],by unfold InR; omega⟩
 have HV := Lib.hid hv
 have HB1 := Lib.hid hb1
 have HX1 := Lib.hid hx1
 clear hv hb1 k1 hx1
 go_enter Tryz.func30,Tryz.ntmps30
 go_wp2_with fail
 rw [← hW1]
 clear hW1
 go_loopw [8] (fun i wr => ∃ m : Nat,m ≤ l.length ∧ i = .int .i64 m ∧ Hid (∃ y,Box wr w.heap.size y) ∧ Hid (Below w.heap.size w wr)) (fun i _ => l.length - (intOf i).toNat)
 case atStart => exact ⟨0,Nat.zero_le _,rfl,Lib.hid ⟨_,HX1.out⟩,HB1⟩
 case round =>
  obtain ⟨m,hm,rfl,HY,HB⟩ := hrel
  obtain ⟨y,hy⟩ := HY.out
  by_cases hlt : m < l.length
  ·obtain ⟨⟨g,t⟩,hx⟩ : ∃ c,l[m]? = some c := ⟨_,List.getElem?_eq_getElem hlt⟩
   have hf := fun (j : Nat) (hj : j < 2) => flat_at encL 2 encL_len j hj l m _ hx
   obtain ⟨b,o,u0,rfl,hp,e0,rfl,_⟩ := VAt.at HV.out (j:=m * 2 + 0) (x := .int g) (by rw [encLs,hf 0 (by omega)]; rfl)
   obtain ⟨b2,o2,u1,hb2,_,e1,hu⟩ := VAt.at HV.out (j:=m * 2 + 1) (x := .row t.length (encTs t)) (by rw [encLs,hf 1 (by omega)]; rfl)
   obtain ⟨rfl,rfl⟩ : b2 = b ∧ o2 = o := by simp at hb2; exact ⟨hb2.1.symm,hb2.2.symm⟩
   obtain ⟨B,d,rfl,_,_⟩ := VAt.slice hu
   have e0 : wr.cell? ⟨b2,o2 + m * 2,none⟩ = some (.int .i64 g) := (HB.out.cell (p := ⟨b2,_,none⟩) hp).trans e0
   have e1 : wr.cell? ⟨b2,o2 + m * 2 + 1,none⟩ = some (.slice B t.length d) := (HB.out.cell (p := ⟨b2,_,none⟩) hp).trans e1
   have hlr : w.heap.size < wr.heap.size := World.block_lt_of_cell? wr _ hy.cell
   have i1 : (0 : Int) ≤ (m : Int) := by omega
   have i2 : (m : Int) < (l.length : Int) := by omega
   obtain ⟨W8,hW8⟩ : ∃ yy,yy = wr.alloc (.cells #[.int .i64 g,.slice B t.length d] 54) := ⟨_,rfl⟩
   have hb8 : Below wr.heap.size wr W8 := by rw [hW8]; exact (Below.refl _ _).alloc (Nat.le_refl _) _
   have hw8 : Below w.heap.size w W8 := HB.out.trans (hb8.mono (by omega))
   have HI := Lib.hid (nodes_any t W8 _ w.heap.size y 1 (TsP.mono (TsP.low hu hw8) (fun b hb => by omega)) (hy.below hb8) (by unfold InR; omega))
   have HW8 := Lib.hid hw8
   have HWe := Lib.hid hW8
   have hlt8 : w.heap.size ≤ W8.heap.size := by have := hb8.size; omega
   clear hx hy hb8 hw8 hW8 hu hf
   go_wp2_with fail
   rw [← HWe.out]
   refine HI.out.mono ?_
   rintro e W9 ⟨⟨r,rfl⟩,⟨y9,hx9⟩,hg9⟩
   have HX9 := Lib.hid hx9
   have HB9 := Lib.hid (HW8.out.trans (grown_low hg9 hlt8))
   clear hx9 hg9
   dsimp only
   cases r
   ·go_wp2_with fail
    go_ret
    exact ⟨⟨_,rfl⟩,HB9.out⟩
   ·go_wp2_with fail
    go_roundw
    case rel => exact ⟨m + 1,by omega,by go_num,Lib.hid ⟨_,HX9.out⟩,HB9⟩
    case measure => simp [intOf]; omega
  ·have i2 : (l.length : Int) ≤ (m : Int) := by omega
   go_wp2_with fail
   go_ret
   exact ⟨⟨_,rfl⟩,HB.out⟩
end Go.Proofs.YtjojbhkgdkcaoaaGreat
set_option maxRecDepth 20000
namespace Go.Proofs.YtjojbhkgdkcaoaaGreat
open Go Go.Ev Go.Proofs
def e242_0 : Entry := ⟨242,[.agg [.slice 0 0 2 2 false,.slice 1 0 4 4 false]],[
 .cells [.prim (.string ⟨#[110,97,116]⟩),.prim (.string ⟨#[98,111,111,108]⟩)] 9 [] false,
 .cells [.prim (.string ⟨#[48]⟩),.prim (.slice none 0 0),.prim (.int .i64 (0)),.prim (.string ⟨#[115]⟩),.slice 2 0 1 1 false,.prim (.int .i64 (0)),.prim (.string ⟨#[116,114,117,101]⟩),.prim (.slice none 0 0),.prim (.int .i64 (1)),.prim (.string ⟨#[102,97,108,115,101]⟩),.prim (.slice none 0 0),.prim (.int .i64 (1))] 165 [] false,
 .cells [.prim (.int .i64 (0))] 3 [] false],.int .i64 0⟩
def e119_0 : Entry := ⟨119,[.agg [.slice 0 0 2 2 false,.slice 1 0 4 4 false,.prim (.slice none 0 0),.slice 2 0 2 2 false,.slice 3 0 1 1 false,.prim (.int .i64 (7)),.prim (.int .i64 (0)),.prim (.int .i64 (0)),.prim (.int .i64 (0)),.prim (.int .i64 (0)),.prim (.slice none 0 0),.prim (.slice none 0 0),.prim (.slice none 0 0),.slice 4 0 1 1 false,.prim (.slice none 0 0),.slice 5 0 2 2 false]],[
 .cells [.prim (.string ⟨#[110,97,116]⟩),.prim (.string ⟨#[98,111,111,108]⟩)] 9 [] false,
 .cells [.prim (.string ⟨#[48]⟩),.prim (.slice none 0 0),.prim (.int .i64 (0)),.prim (.string ⟨#[115]⟩),.slice 6 0 1 1 false,.prim (.int .i64 (0)),.prim (.string ⟨#[116,114,117,101]⟩),.prim (.slice none 0 0),.prim (.int .i64 (1)),.prim (.string ⟨#[102,97,108,115,101]⟩),.prim (.slice none 0 0),.prim (.int .i64 (1))] 165 [] false,
 .cells [.prim (.string ⟨#[97]⟩),.prim (.string ⟨#[98]⟩)] 9 [] false,
 .cells [.prim (.string ⟨#[112]⟩),.prim (.int .i64 (1)),.slice 7 0 1 1 false,.prim (.bool true),.slice 8 0 1 1 false,.prim (.int .i64 (3)),.prim (.int .i64 (0)),.prim (.int .i64 (0)),.prim (.int .i64 (0)),.prim (.int .i64 (-1)),.prim (.slice none 0 0),.slice 9 0 1 1 false,.slice 10 0 1 1 false,.prim (.slice none 0 0),.prim (.slice none 0 0),.slice 11 0 1 1 false] 105 [] false,
 .cells [.prim (.int .i64 (0))] 3 [] false,
 .cells [.prim (.int .i64 (12)),.prim (.int .i64 (0)),.prim (.int .i64 (0)),.prim (.int .i64 (0)),.prim (.int .i64 (0)),.slice 12 0 1 1 false,.prim (.slice none 0 0),.prim (.slice none 0 0),.prim (.slice none 0 0),.slice 13 0 1 1 false,.prim (.slice none 0 0),.prim (.int .i64 (3)),.prim (.int .i64 (0)),.prim (.int .i64 (1)),.prim (.int .i64 (0)),.prim (.int .i64 (-1)),.prim (.slice none 0 0),.slice 14 0 1 1 false,.prim (.slice none 0 0),.prim (.slice none 0 0),.prim (.slice none 0 0),.slice 15 0 1 1 false] 28 [] false,
 .cells [.prim (.int .i64 (0))] 3 [] false,
 .cells [.prim (.int .i64 (0))] 3 [] false,
 .cells [.prim (.int .i64 (0))] 3 [] false,
 .cells [.prim (.bool true),.prim (.int .i64 (0)),.prim (.int .i64 (0)),.prim (.int .i64 (0)),.prim (.slice none 0 0)] 68 [] false,
 .cells [.prim (.int .i64 (1)),.prim (.int .i64 (1)),.prim (.slice none 0 0),.prim (.int .i64 (1)),.prim (.int .i64 (0)),.prim (.slice none 0 0)] 115 [] false,
 .cells [.prim (.int .i64 (2)),.prim (.int .i64 (0)),.prim (.int .i64 (0)),.prim (.int .i64 (0)),.prim (.int .i64 (0)),.prim (.slice none 0 0),.slice 16 0 1 0 true,.prim (.slice none 0 0),.prim (.slice none 0 0),.prim (.slice none 0 0),.prim (.slice none 0 0)] 28 [] false,
 .cells [.prim (.int .i64 (0))] 3 [] false,
 .cells [.prim (.int .i64 (2)),.prim (.int .i64 (0)),.prim (.slice none 0 0)] 62 [] false,
 .cells [.prim (.bool false),.prim (.int .i64 (0)),.prim (.int .i64 (1)),.prim (.int .i64 (0)),.prim (.slice none 0 0)] 68 [] false,
 .cells [.prim (.int .i64 (1)),.prim (.int .i64 (0)),.prim (.int .i64 (0)),.prim (.int .i64 (0)),.prim (.int .i64 (0)),.prim (.slice none 0 0),.prim (.slice none 0 0),.prim (.slice none 0 0),.prim (.slice none 0 0),.prim (.slice none 0 0),.prim (.slice none 0 0)] 28 [] false,
 .cells [.prim (.bool false),.prim (.int .i64 (0)),.prim (.int .i64 (1)),.prim (.int .i64 (1)),.prim (.slice none 0 0)] 68 [] false],.bool true⟩
def e63_0 : Entry := ⟨63,[.agg [.slice 0 0 2 2 false,.slice 1 0 4 4 false,.prim (.slice none 0 0),.slice 2 0 2 2 false,.slice 3 0 1 1 false,.prim (.int .i64 (7)),.prim (.int .i64 (0)),.prim (.int .i64 (0)),.prim (.int .i64 (0)),.prim (.int .i64 (0)),.prim (.slice none 0 0),.prim (.slice none 0 0),.prim (.slice none 0 0),.slice 4 0 1 1 false,.prim (.slice none 0 0),.slice 5 0 2 2 false]],[
 .cells [.prim (.string ⟨#[110,97,116]⟩),.prim (.string ⟨#[98,111,111,108]⟩)] 9 [] false,
 .cells [.prim (.string ⟨#[48]⟩),.prim (.slice none 0 0),.prim (.int .i64 (0)),.prim (.string ⟨#[115]⟩),.slice 6 0 1 1 false,.prim (.int .i64 (0)),.prim (.string ⟨#[116,114,117,101]⟩),.prim (.slice none 0 0),.prim (.int .i64 (1)),.prim (.string ⟨#[102,97,108,115,101]⟩),.prim (.slice none 0 0),.prim (.int .i64 (1))] 165 [] false,
 .cells [.prim (.string ⟨#[97]⟩),.prim (.string ⟨#[98]⟩)] 9 [] false,
 .cells [.prim (.string ⟨#[112]⟩),.prim (.int .i64 (1)),.slice 7 0 1 1 false,.prim (.bool true),.slice 8 0 1 1 false,.prim (.int .i64 (3)),.prim (.int .i64 (0)),.prim (.int .i64 (0)),.prim (.int .i64 (0)),.prim (.int .i64 (-1)),.prim (.slice none 0 0),.slice 9 0 1 1 false,.slice 10 0 1 1 false,.prim (.slice none 0 0),.prim (.slice none 0 0),.slice 11 0 1 1 false] 105 [] false,
 .cells [.prim (.int .i64 (0))] 3 [] false,
 .cells [.prim (.int .i64 (12)),.prim (.int .i64 (0)),.prim (.int .i64 (0)),.prim (.int .i64 (0)),.prim (.int .i64 (0)),.slice 12 0 1 1 false,.prim (.slice none 0 0),.prim (.slice none 0 0),.prim (.slice none 0 0),.slice 13 0 1 1 false,.prim (.slice none 0 0),.prim (.int .i64 (3)),.prim (.int .i64 (0)),.prim (.int .i64 (1)),.prim (.int .i64 (0)),.prim (.int .i64 (-1)),.prim (.slice none 0 0),.slice 14 0 1 1 false,.prim (.slice none 0 0),.prim (.slice none 0 0),.prim (.slice none 0 0),.slice 15 0 1 1 false] 28 [] false,
 .cells [.prim (.int .i64 (0))] 3 [] false,
 .cells [.prim (.int .i64 (0))] 3 [] false,
 .cells [.prim (.int .i64 (0))] 3 [] false,
 .cells [.prim (.bool true),.prim (.int .i64 (0)),.prim (.int .i64 (0)),.prim (.int .i64 (0)),.prim (.slice none 0 0)] 68 [] false,
 .cells [.prim (.int .i64 (1)),.prim (.int .i64 (1)),.prim (.slice none 0 0),.prim (.int .i64 (1)),.prim (.int .i64 (0)),.prim (.slice none 0 0)] 115 [] false,
 .cells [.prim (.int .i64 (2)),.prim (.int .i64 (0)),.prim (.int .i64 (0)),.prim (.int .i64 (0)),.prim (.int .i64 (0)),.prim (.slice none 0 0),.slice 16 0 1 0 true,.prim (.slice none 0 0),.prim (.slice none 0 0),.prim (.slice none 0 0),.prim (.slice none 0 0)] 28 [] false,
 .cells [.prim (.int .i64 (0))] 3 [] false,
 .cells [.prim (.int .i64 (2)),.prim (.int .i64 (0)),.prim (.slice none 0 0)] 62 [] false,
 .cells [.prim (.bool false),.prim (.int .i64 (0)),.prim (.int .i64 (1)),.prim (.int .i64 (0)),.prim (.slice none 0 0)] 68 [] false,
 .cells [.prim (.int .i64 (1)),.prim (.int .i64 (0)),.prim (.int .i64 (0)),.prim (.int .i64 (0)),.prim (.int .i64 (0)),.prim (.slice none 0 0),.prim (.slice none 0 0),.prim (.slice none 0 0),.prim (.slice none 0 0),.prim (.slice none 0 0),.prim (.slice none 0 0)] 28 [] false,
 .cells [.prim (.bool false),.prim (.int .i64 (0)),.prim (.int .i64 (1)),.prim (.int .i64 (1)),.prim (.slice none 0 0)] 68 [] false],.int .i64 0⟩
def e69_0 : Entry := ⟨69,[.prim (.int .i64 (2)),.prim (.slice none 0 0),.agg [.prim (.int .i64 (7)),.prim (.int .i64 (0)),.prim (.int .i64 (0)),.prim (.int .i64 (0)),.prim (.int .i64 (0)),.prim (.slice none 0 0),.prim (.slice none 0 0),.prim (.slice none 0 0),.slice 0 0 1 1 false,.prim (.slice none 0 0),.slice 1 0 2 2 false],.agg [.prim (.bool false),.prim (.slice none 0 0)],.prim (.int .i64 (0))],[
 .cells [.prim (.int .i64 (0))] 3 [] false,
 .cells [.prim (.int .i64 (12)),.prim (.int .i64 (0)),.prim (.int .i64 (0)),.prim (.int .i64 (0)),.prim (.int .i64 (0)),.slice 2 0 1 1 false,.prim (.slice none 0 0),.prim (.slice none 0 0),.prim (.slice none 0 0),.slice 3 0 1 1 false,.prim (.slice none 0 0),.prim (.int .i64 (3)),.prim (.int .i64 (0)),.prim (.int .i64 (1)),.prim (.int .i64 (0)),.prim (.int .i64 (-1)),.prim (.slice none 0 0),.slice 4 0 1 1 false,.prim (.slice none 0 0),.prim (.slice none 0 0),.prim (.slice none 0 0),.slice 5 0 1 1 false] 28 [] false,
 .cells [.prim (.int .i64 (0))] 3 [] false,
 .cells [.prim (.int .i64 (2)),.prim (.int .i64 (0)),.prim (.slice none 0 0)] 62 [] false,
 .cells [.prim (.bool false),.prim (.int .i64 (0)),.prim (.int .i64 (1)),.prim (.int .i64 (0)),.prim (.slice none 0 0)] 68 [] false,
 .cells [.prim (.int .i64 (1)),.prim (.int .i64 (0)),.prim (.int .i64 (0)),.prim (.int .i64 (0)),.prim (.int .i64 (0)),.prim (.slice none 0 0),.prim (.slice none 0 0),.prim (.slice none 0 0),.prim (.slice none 0 0),.prim (.slice none 0 0),.prim (.slice none 0 0)] 28 [] false],.bool true⟩
def e69_1 : Entry := ⟨69,[.prim (.int .i64 (1)),.slice 0 0 1 1 false,.agg [.prim (.int .i64 (3)),.prim (.int .i64 (0)),.prim (.int .i64 (0)),.prim (.int .i64 (0)),.prim (.int .i64 (-1)),.prim (.slice none 0 0),.slice 1 0 1 1 false,.slice 2 0 1 1 false,.prim (.slice none 0 0),.prim (.slice none 0 0),.slice 3 0 1 1 false],.agg [.prim (.bool true),.slice 4 0 1 1 false],.prim (.int .i64 (0))],[
 .cells [.prim (.int .i64 (0))] 3 [] false,
 .cells [.prim (.bool true),.prim (.int .i64 (0)),.prim (.int .i64 (0)),.prim (.int .i64 (0)),.prim (.slice none 0 0)] 68 [] false,
 .cells [.prim (.int .i64 (1)),.prim (.int .i64 (1)),.prim (.slice none 0 0),.prim (.int .i64 (1)),.prim (.int .i64 (0)),.prim (.slice none 0 0)] 115 [] false,
 .cells [.prim (.int .i64 (2)),.prim (.int .i64 (0)),.prim (.int .i64 (0)),.prim (.int .i64 (0)),.prim (.int .i64 (0)),.prim (.slice none 0 0),.slice 5 0 1 0 true,.prim (.slice none 0 0),.prim (.slice none 0 0),.prim (.slice none 0 0),.prim (.slice none 0 0)] 28 [] false,
 .cells [.prim (.int .i64 (0))] 3 [] false,
 .cells [.prim (.bool false),.prim (.int .i64 (0)),.prim (.int .i64 (1)),.prim (.int .i64 (1)),.prim (.slice none 0 0)] 68 [] false],.bool true⟩
def e69_2 : Entry := ⟨69,[.prim (.int .i64 (1)),.prim (.slice none 0 0),.agg [.prim (.int .i64 (3)),.prim (.int .i64 (0)),.prim (.int .i64 (0)),.prim (.int .i64 (0)),.prim (.int .i64 (-1)),.prim (.slice none 0 0),.slice 0 0 1 1 false,.slice 1 0 1 1 false,.prim (.slice none 0 0),.prim (.slice none 0 0),.slice 2 0 1 1 false],.agg [.prim (.bool false),.prim (.slice none 0 0)],.prim (.int .i64 (6))],[
 .cells [.prim (.bool true),.prim (.int .i64 (0)),.prim (.int .i64 (0)),.prim (.int .i64 (0)),.prim (.slice none 0 0)] 68 [] false,
 .cells [.prim (.int .i64 (1)),.prim (.int .i64 (1)),.prim (.slice none 0 0),.prim (.int .i64 (1)),.prim (.int .i64 (0)),.prim (.slice none 0 0)] 115 [] false,
 .cells [.prim (.int .i64 (2)),.prim (.int .i64 (0)),.prim (.int .i64 (0)),.prim (.int .i64 (0)),.prim (.int .i64 (0)),.prim (.slice none 0 0),.slice 3 0 1 0 true,.prim (.slice none 0 0),.prim (.slice none 0 0),.prim (.slice none 0 0),.prim (.slice none 0 0)] 28 [] false,
 .cells [.prim (.bool false),.prim (.int .i64 (0)),.prim (.int .i64 (1)),.prim (.int .i64 (1)),.prim (.slice none 0 0)] 68 [] false],.bool true⟩
def e69_3 : Entry := ⟨69,[.prim (.int .i64 (0)),.slice 0 0 1 1 false,.agg [.prim (.int .i64 (3)),.prim (.int .i64 (0)),.prim (.int .i64 (0)),.prim (.int .i64 (0)),.prim (.int .i64 (-1)),.prim (.slice none 0 0),.slice 1 0 1 1 false,.slice 2 0 1 1 false,.prim (.slice none 0 0),.prim (.slice none 0 0),.slice 3 0 1 1 false],.agg [.prim (.bool false),.prim (.slice none 0 0)],.prim (.int .i64 (6))],[
 .cells [.prim (.int .i64 (0))] 3 [] false,
 .cells [.prim (.bool true),.prim (.int .i64 (0)),.prim (.int .i64 (0)),.prim (.int .i64 (0)),.prim (.slice none 0 0)] 68 [] false,
 .cells [.prim (.int .i64 (1)),.prim (.int .i64 (1)),.prim (.slice none 0 0),.prim (.int .i64 (1)),.prim (.int .i64 (0)),.prim (.slice none 0 0)] 115 [] false,
 .cells [.prim (.int .i64 (2)),.prim (.int .i64 (0)),.prim (.int .i64 (0)),.prim (.int .i64 (0)),.prim (.int .i64 (0)),.prim (.slice none 0 0),.slice 4 0 1 0 true,.prim (.slice none 0 0),.prim (.slice none 0 0),.prim (.slice none 0 0),.prim (.slice none 0 0)] 28 [] false,
 .cells [.prim (.bool false),.prim (.int .i64 (0)),.prim (.int .i64 (1)),.prim (.int .i64 (1)),.prim (.slice none 0 0)] 68 [] false],.bool true⟩
def e69_4 : Entry := ⟨69,[.prim (.int .i64 (0)),.prim (.slice none 0 0),.agg [.prim (.int .i64 (7)),.prim (.int .i64 (0)),.prim (.int .i64 (0)),.prim (.int .i64 (0)),.prim (.int .i64 (0)),.prim (.slice none 0 0),.prim (.slice none 0 0),.prim (.slice none 0 0),.slice 0 0 1 1 false,.prim (.slice none 0 0),.slice 1 0 2 2 false],.agg [.prim (.bool true),.slice 2 0 1 1 false],.prim (.int .i64 (0))],[
 .cells [.prim (.int .i64 (0))] 3 [] false,
 .cells [.prim (.int .i64 (1)),.prim (.int .i64 (0)),.prim (.int .i64 (0)),.prim (.int .i64 (0)),.prim (.int .i64 (0)),.prim (.slice none 0 0),.prim (.slice none 0 0),.prim (.slice none 0 0),.prim (.slice none 0 0),.prim (.slice none 0 0),.prim (.slice none 0 0),.prim (.int .i64 (2)),.prim (.int .i64 (0)),.prim (.int .i64 (0)),.prim (.int .i64 (0)),.prim (.int .i64 (0)),.prim (.slice none 0 0),.slice 3 0 1 0 true,.prim (.slice none 0 0),.prim (.slice none 0 0),.prim (.slice none 0 0),.prim (.slice none 0 0)] 28 [] false,
 .cells [.prim (.int .i64 (0))] 3 [] false,
 .cells [.prim (.bool false),.prim (.int .i64 (0)),.prim (.int .i64 (1)),.prim (.int .i64 (0)),.prim (.slice none 0 0)] 68 [] false],.bool true⟩
def e69_5 : Entry := ⟨69,[.prim (.int .i64 (0)),.prim (.slice none 0 0),.agg [.prim (.int .i64 (7)),.prim (.int .i64 (0)),.prim (.int .i64 (0)),.prim (.int .i64 (0)),.prim (.int .i64 (0)),.prim (.slice none 0 0),.prim (.slice none 0 0),.prim (.slice none 0 0),.slice 0 0 1 1 false,.prim (.slice none 0 0),.slice 1 0 2 2 false],.agg [.prim (.bool false),.prim (.slice none 0 0)],.prim (.int .i64 (6))],[
 .cells [.prim (.int .i64 (0))] 3 [] false,
 .cells [.prim (.int .i64 (2)),.prim (.int .i64 (0)),.prim (.int .i64 (0)),.prim (.int .i64 (0)),.prim (.int .i64 (0)),.prim (.slice none 0 0),.slice 2 0 1 0 true,.prim (.slice none 0 0),.prim (.slice none 0 0),.prim (.slice none 0 0),.prim (.slice none 0 0),.prim (.int .i64 (1)),.prim (.int .i64 (0)),.prim (.int .i64 (0)),.prim (.int .i64 (0)),.prim (.int .i64 (0)),.prim (.slice none 0 0),.prim (.slice none 0 0),.prim (.slice none 0 0),.prim (.slice none 0 0),.prim (.slice none 0 0),.prim (.slice none 0 0)] 28 [] false,
 .cells [.prim (.bool false),.prim (.int .i64 (0)),.prim (.int .i64 (2)),.prim (.int .i64 (2)),.prim (.slice none 0 0)] 68 [] false],.bool true⟩
def e69_6 : Entry := ⟨69,[.prim (.int .i64 (0)),.prim (.slice none 0 0),.agg [.prim (.int .i64 (4)),.prim (.int .i64 (0)),.prim (.int .i64 (0)),.prim (.int .i64 (0)),.prim (.int .i64 (0)),.prim (.slice none 0 0),.prim (.slice none 0 0),.prim (.slice none 0 0),.prim (.slice none 0 0),.prim (.slice none 0 0),.slice 0 0 2 2 false],.agg [.prim (.bool true),.prim (.slice none 0 0)],.prim (.int .i64 (0))],[
 .cells [.prim (.int .i64 (2)),.prim (.int .i64 (0)),.prim (.int .i64 (0)),.prim (.int .i64 (0)),.prim (.int .i64 (0)),.prim (.slice none 0 0),.prim (.slice none 0 0),.prim (.slice none 0 0),.prim (.slice none 0 0),.prim (.slice none 0 0),.prim (.slice none 0 0),.prim (.int .i64 (1)),.prim (.int .i64 (0)),.prim (.int .i64 (0)),.prim (.int .i64 (0)),.prim (.int .i64 (0)),.prim (.slice none 0 0),.prim (.slice none 0 0),.prim (.slice none 0 0),.prim (.slice none 0 0),.prim (.slice none 0 0),.prim (.slice none 0 0)] 28 [] false],.bool true⟩
def e69_7 : Entry := ⟨69,[.prim (.int .i64 (0)),.prim (.slice none 0 0),.agg [.prim (.int .i64 (5)),.prim (.int .i64 (0)),.prim (.int .i64 (0)),.prim (.int .i64 (0)),.prim (.int .i64 (0)),.prim (.slice none 0 0),.prim (.slice none 0 0),.prim (.slice none 0 0),.prim (.slice none 0 0),.prim (.slice none 0 0),.slice 0 0 2 2 false],.agg [.prim (.bool false),.prim (.slice none 0 0)],.prim (.int .i64 (6))],[
 .cells [.prim (.int .i64 (2)),.prim (.int .i64 (0)),.prim (.int .i64 (0)),.prim (.int .i64 (0)),.prim (.int .i64 (0)),.prim (.slice none 0 0),.slice 1 0 1 0 true,.prim (.slice none 0 0),.prim (.slice none 0 0),.prim (.slice none 0 0),.prim (.slice none 0 0),.prim (.int .i64 (2)),.prim (.int .i64 (0)),.prim (.int .i64 (0)),.prim (.int .i64 (0)),.prim (.int .i64 (0)),.prim (.slice none 0 0),.slice 2 0 1 0 true,.prim (.slice none 0 0),.prim (.slice none 0 0),.prim (.slice none 0 0),.prim (.slice none 0 0)] 28 [] false,
 .cells [.prim (.bool false),.prim (.int .i64 (0)),.prim (.int .i64 (2)),.prim (.int .i64 (0)),.prim (.slice none 0 0)] 68 [] false,
 .cells [.prim (.bool false),.prim (.int .i64 (0)),.prim (.int .i64 (2)),.prim (.int .i64 (2)),.prim (.slice none 0 0)] 68 [] false],.bool true⟩
def e69_8 : Entry := ⟨69,[.prim (.int .i64 (0)),.prim (.slice none 0 0),.agg [.prim (.int .i64 (5)),.prim (.int .i64 (0)),.prim (.int .i64 (0)),.prim (.int .i64 (0)),.prim (.int .i64 (0)),.prim (.slice none 0 0),.prim (.slice none 0 0),.prim (.slice none 0 0),.prim (.slice none 0 0),.prim (.slice none 0 0),.slice 0 0 2 2 false],.agg [.prim (.bool false),.prim (.slice none 0 0)],.prim (.int .i64 (0))],[
 .cells [.prim (.int .i64 (2)),.prim (.int .i64 (0)),.prim (.int .i64 (0)),.prim (.int .i64 (0)),.prim (.int .i64 (0)),.prim (.slice none 0 0),.slice 1 0 1 0 true,.prim (.slice none 0 0),.prim (.slice none 0 0),.prim (.slice none 0 0),.prim (.slice none 0 0),.prim (.int .i64 (1)),.prim (.int .i64 (0)),.prim (.int .i64 (0)),.prim (.int .i64 (0)),.prim (.int .i64 (0)),.prim (.slice none 0 0),.prim (.slice none 0 0),.prim (.slice none 0 0),.prim (.slice none 0 0),.prim (.slice none 0 0),.prim (.slice none 0 0)] 28 [] false,
 .cells [.prim (.bool false),.prim (.int .i64 (0)),.prim (.int .i64 (2)),.prim (.int .i64 (0)),.prim (.slice none 0 0)] 68 [] false],.bool true⟩
def m0 : List Entry := []
theorem ke242_0 : entryOK Tryz.prog (memoAll m0) 1000000 e242_0 = true := by kernel_rfl
def m1 : List Entry := e242_0 :: m0
theorem ke119_0 : entryOK Tryz.prog (memoAll m1) 1000000 e119_0 = true := by kernel_rfl
def m2 : List Entry := e119_0 :: m1
theorem ke63_0 : entryOK Tryz.prog (memoAll m2) 1000000 e63_0 = true := by kernel_rfl
def m3 : List Entry := e63_0 :: m2
theorem ke69_0 : entryOK Tryz.prog (memoAll m3) 1000000 e69_0 = true := by kernel_rfl
def m4 : List Entry := e69_0 :: m3
theorem ke69_1 : entryOK Tryz.prog (memoAll m4) 1000000 e69_1 = true := by kernel_rfl
def m5 : List Entry := e69_1 :: m4
theorem ke69_2 : entryOK Tryz.prog (memoAll m5) 1000000 e69_2 = true := by kernel_rfl
def m6 : List Entry := e69_2 :: m5
theorem ke69_3 : entryOK Tryz.prog (memoAll m6) 1000000 e69_3 = true := by kernel_rfl
def m7 : List Entry := e69_3 :: m6
theorem ke69_4 : entryOK Tryz.prog (memoAll m7) 1000000 e69_4 = true := by kernel_rfl
def m8 : List Entry := e69_4 :: m7
theorem ke69_5 : entryOK Tryz.prog (memoAll m8) 1000000 e69_5 = true := by kernel_rfl
def m9 : List Entry := e69_5 :: m8
theorem ke69_6 : entryOK Tryz.prog (memoAll m9) 1000000 e69_6 = true := by kernel_rfl
def m10 : List Entry := e69_6 :: m9
theorem ke69_7 : entryOK Tryz.prog (memoAll m10) 1000000 e69_7 = true := by kernel_rfl
def m11 : List Entry := e69_7 :: m10
theorem ke69_8 : entryOK Tryz.prog (memoAll m11) 1000000 e69_8 = true := by kernel_rfl
def m12 : List Entry := e69_8 :: m11
theorem mixed_all : Tryz.prog.follows .mixedOrders = true := Checked.mixed Tryz.checked
theorem memo0 : MemoOK Tryz.prog (memoAll m0) := memo_nil
theorem memo1 : MemoOK Tryz.prog (memoAll m1) := memo_cons mixed_all memo0 ke242_0
theorem memo2 : MemoOK Tryz.prog (memoAll m2) := memo_cons mixed_all memo1 ke119_0
theorem memo3 : MemoOK Tryz.prog (memoAll m3) := memo_cons mixed_all memo2 ke63_0
theorem memo4 : MemoOK Tryz.prog (memoAll m4) := memo_cons mixed_all memo3 ke69_0
theorem memo5 : MemoOK Tryz.prog (memoAll m5) := memo_cons mixed_all memo4 ke69_1
theorem memo6 : MemoOK Tryz.prog (memoAll m6) := memo_cons mixed_all memo5 ke69_2
theorem memo7 : MemoOK Tryz.prog (memoAll m7) := memo_cons mixed_all memo6 ke69_3
theorem memo8 : MemoOK Tryz.prog (memoAll m8) := memo_cons mixed_all memo7 ke69_4
theorem memo9 : MemoOK Tryz.prog (memoAll m9) := memo_cons mixed_all memo8 ke69_5
theorem memo10 : MemoOK Tryz.prog (memoAll m10) := memo_cons mixed_all memo9 ke69_6
theorem memo11 : MemoOK Tryz.prog (memoAll m11) := memo_cons mixed_all memo10 ke69_7
theorem memo12 : MemoOK Tryz.prog (memoAll m12) := memo_cons mixed_all memo11 ke69_8
end Go.Proofs.YtjojbhkgdkcaoaaGreat
set_option maxRecDepth 20000
namespace Go.Proofs.YtjojbhkgdkcaoaaGreat
open Go Go.Ev Go.Proofs
def isTrue : Option LV → Bool
 | some (.prim (.bool true)) => true
 | _ => false
theorem isTrue_eq {o : Option LV} (h : isTrue o = true) : o = some (.prim (.bool true)) := by
 unfold isTrue at h
 split at h
 ·rfl
 ·cases h
theorem ksane : isTrue (evalTop Tryz.prog (memoAll m12) 1000000 15 []) = true := by kernel_rfl
theorem sane_ok (w : World) : Calls Tryz.prog 15 #[] w fun e w' => e = .returned (.bool true) ∧ Go.RowKit.Below w.heap.size w w' := top_ok (args := []) mixed_all memo12 (isTrue_eq ksane) w
end Go.Proofs.YtjojbhkgdkcaoaaGreat
namespace Go.Bh
def Sg (z : Int) : Prop := -1 ≤ z ∧ z ≤ 1
theorem sg_then {p q : Int} (h : Sg p) (k : Sg q) : Sg (if p = 0 then q else p) := by split <;> assumption
theorem sg_zero : Sg 0 := ⟨by decide,by decide⟩
theorem sg_cmpI (x y : Int) : Sg (cmpI x y) := by unfold Sg cmpI; split <;> (try split) <;> omega
theorem sg_lexC {α : Type} {c : α → α → Int} : ∀ (a b : List α),(∀ x ∈ a,∀ y,Sg (c x y)) → Sg (lexC c a b)
 | [],[],_ => by rw [lexC]; exact sg_zero
 | [],_ :: _,_ => by rw [lexC]; unfold Sg; omega
 | _ :: _,[],_ => by rw [lexC]; unfold Sg; omega
 | x :: a,y :: b,h => by rw [lexC]; exact sg_then (sg_lexC a b fun z hz => h z (by simp [hz])) (h x (by simp) y) |> fun k => by split; exact sg_lexC a b fun z hz => h z (by simp [hz]); exact h x (by simp) y
theorem sg_cmpT : ∀ (x y : Tm),Sg (cmpT x y) := by
 refine Tm.ind fun k n l ih => ?_
 rintro ⟨k',n',l'⟩
 rw [cmpT,cmpTs_eq]
 refine sg_then ?_ (sg_lexC l l' fun x hx y => ih x hx y)
 unfold orI orI orI orI
 exact sg_then (sg_cmpI _ _) (sg_then (sg_cmpI _ _) (sg_then (sg_cmpI _ _) sg_zero))
theorem sg_cmpO (x y : Off) : Sg (cmpO x y) := by
 unfold cmpO
 split
 ·unfold orI orI orI
  exact sg_then (sg_cmpI _ _) (sg_then (sg_cmpT _ _) sg_zero)
 ·split <;> (unfold Sg; omega)
theorem sg_cmpP (x y : Pr) : Sg (cmpP x y) := by
 unfold cmpP orI orI orI
 exact sg_then (sg_cmpT _ _) (sg_then (sg_cmpT _ _) sg_zero)
theorem sg_cmpB : ∀ (x y : Be),Sg (cmpB x y) := by
 refine Be.ind fun kind n gate lo hi gates offers conds sorts t l ih => ?_
 rintro ⟨kind',n',gate',lo',hi',gates',offers',conds',sorts',t',l'⟩
 rw [cmpB,cmpBs_eq]
 refine sg_then (sg_lexC _ _ fun x _ y => sg_cmpI x y) (sg_then ?_ (sg_lexC l l' fun x hx y => ih x hx y))
 unfold orI orI orI orI orI orI
 exact sg_then (sg_lexC _ _ fun x _ y => sg_cmpI x y) (sg_then (sg_lexC _ _ fun x _ y => sg_cmpO x y) (sg_then (sg_lexC _ _ fun x _ y => sg_cmpP x y) (sg_then (sg_lexC _ _ fun x _ y => sg_cmpI x y) (sg_then (sg_lexC _ _ fun x _ y => sg_cmpT x y) sg_zero))))
theorem sg_cmpL (x y : Lb) : Sg (cmpL x y) := by
 unfold cmpL orI orI orI
 exact sg_then (sg_cmpI _ _) (sg_then (sg_lexC _ _ fun x _ y => sg_cmpT x y) sg_zero)
end Go.Bh
namespace Go.Proofs.YtjojbhkgdkcaoaaGreat
open Go Go.RowKit Go.Bh Go.Shelf Go.Proofs.YtjojbhkgdkcaoaaGreatW.PrintLast
theorem vat_of_cells {W : World} {g : Nat} {cur : Array Value} {E : TypeId} {fr : Nat × Nat} {n : Nat} {cs : List VT} (h : W.heap[g]? = some (.cells cur E fr)) (hc : Cs (fun _ => True) W cs cur.toList) (hn : n ≤ maxLen) : Vt W (.row n cs) (.slice (some ⟨g,0,none⟩) n n) :=
 ⟨_,n,rfl,Nat.le_refl _,hn,.inr ⟨g,0,rfl,trivial,CAt.of _ _ fun j x hx => by
  have hj : j < cur.toList.length := by rw [hc.1]; exact (List.getElem?_eq_some_iff.1 hx).1
  have hu : cur.toList[j]? = some (cur.toList[j]'hj) := List.getElem?_eq_getElem hj
  refine ⟨_,?_,hc.2 j x _ hx hu⟩
  rw [World.cell?,h]
  simp⟩⟩
theorem cs_be {W : World} {b : Be} {cs : Array Value} (hr : BR b) (hv : Bv W b (.agg cs)) : Cs (fun _ => True) W (encB b) cs.toList := by
 obtain ⟨vg,vo,vc,vs,vt,vl,h0,h1,h2,h3,h4,h5,h6⟩ := hv
 injection h0 with h0
 subst h0
 obtain ⟨kind,n,gate,lo,hi,gates,offers,conds,sorts,t,l⟩ := b
 have r := fun x hx => hr x hx
 simp only [Be.kind,Be.n,Be.gate,Be.lo,Be.hi,List.mem_cons,List.mem_nil_iff,or_false] at r
 have c1 := fun {x : VT} {u : Value} (h : VAt (fun _ => True) W x u) => Cs.one h
 have c2 := fun {z : Int} (h : InR z) => Cs.one (w := W) (x := .int z) (u := .int .i64 z) ⟨rfl,h⟩
 rw [encB]
 exact Cs.append (c2 (r kind (by simp))) (Cs.append (c2 (r n (by simp))) (Cs.append (c2 (r gate (by simp))) (Cs.append (c2 (r lo (by simp))) (Cs.append (c2 (r hi (by simp))) (Cs.append (c1 h1) (Cs.append (c1 h2) (Cs.append (c1 h3) (Cs.append (c1 h4) (Cs.append (c1 h5) (c1 h6))))))))))
theorem alloc6_get (w : World) (a b c d e f : Obj) : ((((((w.alloc a).alloc b).alloc c).alloc d).alloc e).alloc f).heap[w.heap.size]? = some a ∧ ((((((w.alloc a).alloc b).alloc c).alloc d).alloc e).alloc f).heap[w.heap.size + 1]? = some b ∧ ((((((w.alloc a).alloc b).alloc c).alloc d).alloc e).alloc f).heap[w.heap.size + 1 + 1]? = some c ∧
  ((((((w.alloc a).alloc b).alloc c).alloc d).alloc e).alloc f).heap[w.heap.size + 1 + 1 + 1]? = some d ∧ ((((((w.alloc a).alloc b).alloc c).alloc d).alloc e).alloc f).heap[w.heap.size + 1 + 1 + 1 + 1]? = some e ∧ ((((((w.alloc a).alloc b).alloc c).alloc d).alloc e).alloc f).heap[w.heap.size + 1 + 1 + 1 + 1 + 1]? = some f := by
 have h : ∀ (w : World) (o : Obj),(w.alloc o).heap = w.heap.push o := fun _ _ => rfl
 refine ⟨?_,?_,?_,?_,?_,?_⟩ <;> (simp only [h,Array.getElem?_push,Array.size_push]; (repeat' split) <;> first | rfl | omega | simp_all)
theorem order_walk {a b c : Be} {ja jb jc : Int} {xa xb xc : List Tm} {va vb vc ua ub uc : Value} (w : World)
  (ea : Bv w a va) (ra : BR a) (za : szB a ≤ 1048576)
  (eb : Bv w b vb) (rb : BR b) (zb : szB b ≤ 1048576)
  (ec : Bv w c vc) (rc : BR c) (zc : szB c ≤ 1048576)
  (qa : InR ja) (fa : Ts w xa ua) (ya : sumN szT xa ≤ 1048576)
  (qb : InR jb) (fb : Ts w xb ub) (yb : sumN szT xb ≤ 1048576)
  (qc : InR jc) (fc : Ts w xc uc) (yc : sumN szT xc ≤ 1048576) :
  Calls Tryz.prog 6 #[va,vb,vc,.agg #[.int .i64 ja,ua],.agg #[.int .i64 jb,ub],.agg #[.int .i64 jc,uc]] w fun e w' => e = .returned (.bool true) ∧ Below w.heap.size w w' := by
 obtain ⟨ka,na,ga,loa,hia,sa0,sa1,sa2,sa3,sa4,sa5⟩ := a
 obtain ⟨kb,nb,gb,lob,hib,sb0,sb1,sb2,sb3,sb4,sb5⟩ := b
 obtain ⟨kc,nc,gc,loc,hic,sc0,sc1,sc2,sc3,sc4,sc5⟩ := c
 have Ea := Lib.hid ea
 have Fa := Lib.hid fa
 have Ra := Lib.hid ra
 obtain ⟨wa0,wa1,wa2,wa3,wa4,wa5,rfl,da0,da1,da2,da3,da4,da5⟩ := ea
 obtain ⟨Sa0,ta0,rfl,_,_⟩ := VAt.slice da0
 obtain ⟨Sa1,ta1,rfl,_,_⟩ := VAt.slice da1
 obtain ⟨Sa2,ta2,rfl,_,_⟩ := VAt.slice da2
 obtain ⟨Sa3,ta3,rfl,_,_⟩ := VAt.slice da3
 obtain ⟨Sa4,ta4,rfl,_,_⟩ := VAt.slice da4
 obtain ⟨Sa5,ta5,rfl,_,_⟩ := VAt.slice da5
 obtain ⟨Ua,va,rfl,_,_⟩ := VAt.slice fa
 have Eb := Lib.hid eb
 have Fb := Lib.hid fb
 have Rb := Lib.hid rb
 obtain ⟨wb0,wb1,wb2,wb3,wb4,wb5,rfl,db0,db1,db2,db3,db4,db5⟩ := eb
 obtain ⟨Sb0,tb0,rfl,_,_⟩ := VAt.slice db0
 obtain ⟨Sb1,tb1,rfl,_,_⟩ := VAt.slice db1
 obtain ⟨Sb2,tb2,rfl,_,_⟩ := VAt.slice db2
 obtain ⟨Sb3,tb3,rfl,_,_⟩ := VAt.slice db3
 obtain ⟨Sb4,tb4,rfl,_,_⟩ := VAt.slice db4
 obtain ⟨Sb5,tb5,rfl,_,_⟩ := VAt.slice db5
 obtain ⟨Ub,vb,rfl,_,_⟩ := VAt.slice fb
 have Ec := Lib.hid ec
 have Fc := Lib.hid fc
 have Rc := Lib.hid rc
 obtain ⟨wc0,wc1,wc2,wc3,wc4,wc5,rfl,dc0,dc1,dc2,dc3,dc4,dc5⟩ := ec
 obtain ⟨Sc0,tc0,rfl,_,_⟩ := VAt.slice dc0
 obtain ⟨Sc1,tc1,rfl,_,_⟩ := VAt.slice dc1
 obtain ⟨Sc2,tc2,rfl,_,_⟩ := VAt.slice dc2
 obtain ⟨Sc3,tc3,rfl,_,_⟩ := VAt.slice dc3
 obtain ⟨Sc4,tc4,rfl,_,_⟩ := VAt.slice dc4
 obtain ⟨Sc5,tc5,rfl,_,_⟩ := VAt.slice dc5
 obtain ⟨Uc,vc,rfl,_,_⟩ := VAt.slice fc
 dsimp only [Be.kind,Be.n,Be.gate,Be.lo,Be.hi,Be.gates,Be.offers,Be.conds,Be.sorts,Be.t,Be.l] at *
 clear da0 da1 da2 da3 da4 da5 db0 db1 db2 db3 db4 db5 dc0 dc1 dc2 dc3 dc4 dc5 fa fb fc ra rb rc
 obtain ⟨W1,hW1⟩ : ∃ z,z = ((((((w.alloc (.cells #[.int .i64 ka,.int .i64 na,.int .i64 ga,.int .i64 loa,.int .i64 hia,.slice Sa0 sa0.length ta0,.slice Sa1 sa1.length ta1,.slice Sa2 sa2.length ta2,.slice Sa3 sa3.length ta3,.slice Sa4 sa4.length ta4,.slice Sa5 sa5.length ta5] 28)).alloc (.cells #[.int .i64 kb,.int .i64 nb,.int .i64 gb,.int .i64 lob,.int .i64 hib,.slice Sb0 sb0.length tb0,.slice Sb1 sb1.length tb1,.slice Sb2 sb2.length tb2,.slice Sb3 sb3.length tb3,.slice Sb4 sb4.length tb4,.slice Sb5 sb5.length tb5] 28)).alloc (.cells #[.int .i64 kc,.int .i64 nc,.int .i64 gc,.int .i64 loc,.int .i64 hic,.slice Sc0 sc0.length tc0,.slice Sc1 sc1.length tc1,.slice Sc2 sc2.length tc2,.slice Sc3 sc3.length tc3,.slice Sc4 sc4.length tc4,.slice Sc5 sc5.length tc5] 28)).alloc (.cells #[.int .i64 ja,.slice Ua xa.length va] 54)).alloc (.cells #[.int .i64 jb,.slice Ub xb.length vb] 54)).alloc (.cells #[.int .i64 jc,.slice Uc xc.length vc] 54)) := ⟨_,rfl⟩
 obtain ⟨B5,hB5⟩ : ∃ z,z = w.heap.size + 1 + 1 + 1 + 1 + 1 := ⟨_,rfl⟩
 obtain ⟨B4,hB4⟩ : ∃ z,z = w.heap.size + 1 + 1 + 1 + 1 := ⟨_,rfl⟩
 obtain ⟨B3,hB3⟩ : ∃ z,z = w.heap.size + 1 + 1 + 1 := ⟨_,rfl⟩
 obtain ⟨B2,hB2⟩ : ∃ z,z = w.heap.size + 1 + 1 := ⟨_,rfl⟩
 obtain ⟨B1,hB1⟩ : ∃ z,z = w.heap.size + 1 := ⟨_,rfl⟩
 obtain ⟨B0,hB0⟩ : ∃ z,z = w.heap.size := ⟨_,rfl⟩
 have hz1 : W1.heap.size = w.heap.size + 6 := by rw [hW1]; simp
 have hb1 : Below w.heap.size w W1 := by rw [hW1]; exact ((((((Below.refl _ w).alloc (Nat.le_refl _) _).alloc (by simp) _).alloc (by simp; omega) _).alloc (by simp; omega) _).alloc (by simp; omega) _).alloc (by simp; omega) _
 obtain ⟨k0,k1,k2,k3,k4,k5⟩ := alloc6_get w (.cells #[.int .i64 ka,.int .i64 na,.int .i64 ga,.int .i64 loa,.int .i64 hia,.slice Sa0 sa0.length ta0,.slice Sa1 sa1.length ta1,.slice Sa2 sa2.length ta2,.slice Sa3 sa3.length ta3,.slice Sa4 sa4.length ta4,.slice Sa5 sa5.length ta5] 28) (.cells #[.int .i64 kb,.int .i64 nb,.int .i64 gb,.int .i64 lob,.int .i64 hib,.slice Sb0 sb0.length tb0,.slice Sb1 sb1.length tb1,.slice Sb2 sb2.length tb2,.slice Sb3 sb3.length tb3,.slice Sb4 sb4.length tb4,.slice Sb5 sb5.length tb5] 28) (.cells #[.int .i64 kc,.int .i64 nc,.int .i64 gc,.int .i64 loc,.int .i64 hic,.slice Sc0 sc0.length tc0,.slice Sc1 sc1.length tc1,.slice Sc2 sc2.length tc2,.slice Sc3 sc3.length tc3,.slice Sc4 sc4.length tc4,.slice Sc5 sc5.length tc5] 28) (.cells #[.int .i64 ja,.slice Ua xa.length va] 54) (.cells #[.int .i64 jb,.slice Ub xb.length vb] 54) (.cells #[.int .i64 jc,.slice Uc xc.length vc] 54)
 rw [← hW1] at k0 k1 k2 k3 k4 k5
 rw [← hB5] at k5
 rw [← hB4] at k4
 rw [← hB3] at k3
 rw [← hB2] at k2
 rw [← hB1] at k1
 rw [← hB0] at k0
 have p0_0 := cell_at k0 0 rfl
 have p0_1 := cell_at k0 1 rfl
 have p0_2 := cell_at k0 2 rfl
 have p0_3 := cell_at k0 3 rfl
 have p0_4 := cell_at k0 4 rfl
 have p0_5 := cell_at k0 5 rfl
 have p0_6 := cell_at k0 6 rfl
 have p0_7 := cell_at k0 7 rfl
 have p0_8 := cell_at k0 8 rfl
 have p0_9 := cell_at k0 9 rfl
 have p0_10 := cell_at k0 10 rfl
 have p1_0 := cell_at k1 0 rfl
 have p1_1 := cell_at k1 1 rfl
 have p1_2 := cell_at k1 2 rfl
 have p1_3 := cell_at k1 3 rfl
 have p1_4 := cell_at k1 4 rfl
 have p1_5 := cell_at k1 5 rfl
 have p1_6 := cell_at k1 6 rfl
 have p1_7 := cell_at k1 7 rfl
 have p1_8 := cell_at k1 8 rfl
 have p1_9 := cell_at k1 9 rfl
 have p1_10 := cell_at k1 10 rfl
 have p2_0 := cell_at k2 0 rfl
 have p2_1 := cell_at k2 1 rfl
 have p2_2 := cell_at k2 2 rfl
 have p2_3 := cell_at k2 3 rfl
 have p2_4 := cell_at k2 4 rfl
 have p2_5 := cell_at k2 5 rfl
 have p2_6 := cell_at k2 6 rfl
 have p2_7 := cell_at k2 7 rfl
 have p2_8 := cell_at k2 8 rfl
 have p2_9 := cell_at k2 9 rfl
 have p2_10 := cell_at k2 10 rfl
 have p3_0 := cell_at k3 0 rfl
 have p3_1 := cell_at k3 1 rfl
 have p4_0 := cell_at k4 0 rfl
 have p4_1 := cell_at k4 1 rfl
 have p5_0 := cell_at k5 0 rfl
 have p5_1 := cell_at k5 1 rfl
 have l0 : B0 < W1.heap.size := by omega
 have l1 : B1 < W1.heap.size := by omega
 have l2 : B2 < W1.heap.size := by omega
 have l3 : B3 < W1.heap.size := by omega
 have l4 : B4 < W1.heap.size := by omega
 have l5 : B5 < W1.heap.size := by omega
 have HB1 := Lib.hid hb1
 have HW1 := Lib.hid hW1
 have HN0 := Lib.hid hB0
 have HN1 := Lib.hid hB1
 have HN2 := Lib.hid hB2
 have HN3 := Lib.hid hB3
 have HN4 := Lib.hid hB4
 have HN5 := Lib.hid hB5
 clear k0 k1 k2 k3 k4 k5 hb1 hW1 hB0 hB1 hB2 hB3 hB4 hB5
 have BW : Hid (∀ W,Below W1.heap.size W1 W → Below w.heap.size w W) := Lib.hid (fun W h => HB1.out.trans (h.mono (by omega)))
 obtain ⟨kk,hkk⟩ : ∃ z,z = cmpB (.mk ka na ga loa hia sa0 sa1 sa2 sa3 sa4 sa5) (.mk kb nb gb lob hib sb0 sb1 sb2 sb3 sb4 sb5) := ⟨_,rfl⟩
 obtain ⟨ll,hll⟩ : ∃ z,z = cmpB (.mk kb nb gb lob hib sb0 sb1 sb2 sb3 sb4 sb5) (.mk kc nc gc loc hic sc0 sc1 sc2 sc3 sc4 sc5) := ⟨_,rfl⟩
 obtain ⟨mm,hmm⟩ : ∃ z,z = cmpB (.mk ka na ga loa hia sa0 sa1 sa2 sa3 sa4 sa5) (.mk kc nc gc loc hic sc0 sc1 sc2 sc3 sc4 sc5) := ⟨_,rfl⟩
 obtain ⟨pp,hpp⟩ : ∃ z,z = cmpL ⟨ja,xa⟩ ⟨jb,xb⟩ := ⟨_,rfl⟩
 obtain ⟨qq,hqq⟩ : ∃ z,z = cmpL ⟨jb,xb⟩ ⟨jc,xc⟩ := ⟨_,rfl⟩
 obtain ⟨rr,hrr⟩ : ∃ z,z = cmpL ⟨ja,xa⟩ ⟨jc,xc⟩ := ⟨_,rfl⟩
 have CAB : Hid (∀ W,Below W1.heap.size W1 W → Calls Tryz.prog 31 #[.agg #[.int .i64 ka,.int .i64 na,.int .i64 ga,.int .i64 loa,.int .i64 hia,.slice Sa0 sa0.length ta0,.slice Sa1 sa1.length ta1,.slice Sa2 sa2.length ta2,.slice Sa3 sa3.length ta3,.slice Sa4 sa4.length ta4,.slice Sa5 sa5.length ta5],.agg #[.int .i64 kb,.int .i64 nb,.int .i64 gb,.int .i64 lob,.int .i64 hib,.slice Sb0 sb0.length tb0,.slice Sb1 sb1.length tb1,.slice Sb2 sb2.length tb2,.slice Sb3 sb3.length tb3,.slice Sb4 sb4.length tb4,.slice Sb5 sb5.length tb5]] W fun e W' => e = .returned (.int .i64 kk) ∧ Below W.heap.size W W') := Lib.hid (fun W h => (cmpB_ok _ _ W _ _ Ra.out Rb.out (BV.below Ea.out (BW.out W h)) (BV.below Eb.out (BW.out W h))).mono fun e W' ⟨h1,h2⟩ => ⟨by rw [h1,← hkk],h2⟩)
 have CBC : Hid (∀ W,Below W1.heap.size W1 W → Calls Tryz.prog 31 #[.agg #[.int .i64 kb,.int .i64 nb,.int .i64 gb,.int .i64 lob,.int .i64 hib,.slice Sb0 sb0.length tb0,.slice Sb1 sb1.length tb1,.slice Sb2 sb2.length tb2,.slice Sb3 sb3.length tb3,.slice Sb4 sb4.length tb4,.slice Sb5 sb5.length tb5],.agg #[.int .i64 kc,.int .i64 nc,.int .i64 gc,.int .i64 loc,.int .i64 hic,.slice Sc0 sc0.length tc0,.slice Sc1 sc1.length tc1,.slice Sc2 sc2.length tc2,.slice Sc3 sc3.length tc3,.slice Sc4 sc4.length tc4,.slice Sc5 sc5.length tc5]] W fun e W' => e = .returned (.int .i64 ll) ∧ Below W.heap.size W W') := Lib.hid (fun W h => (cmpB_ok _ _ W _ _ Rb.out Rc.out (BV.below Eb.out (BW.out W h)) (BV.below Ec.out (BW.out W h))).mono fun e W' ⟨h1,h2⟩ => ⟨by rw [h1,← hll],h2⟩)
 have CAC : Hid (∀ W,Below W1.heap.size W1 W → Calls Tryz.prog 31 #[.agg #[.int .i64 ka,.int .i64 na,.int .i64 ga,.int .i64 loa,.int .i64 hia,.slice Sa0 sa0.length ta0,.slice Sa1 sa1.length ta1,.slice Sa2 sa2.length ta2,.slice Sa3 sa3.length ta3,.slice Sa4 sa4.length ta4,.slice Sa5 sa5.length ta5],.agg #[.int .i64 kc,.int .i64 nc,.int .i64 gc,.int .i64 loc,.int .i64 hic,.slice Sc0 sc0.length tc0,.slice Sc1 sc1.length tc1,.slice Sc2 sc2.length tc2,.slice Sc3 sc3.length tc3,.slice Sc4 sc4.length tc4,.slice Sc5 sc5.length tc5]] W fun e W' => e = .returned (.int .i64 mm) ∧ Below W.heap.size W W') := Lib.hid (fun W h => (cmpB_ok _ _ W _ _ Ra.out Rc.out (BV.below Ea.out (BW.out W h)) (BV.below Ec.out (BW.out W h))).mono fun e W' ⟨h1,h2⟩ => ⟨by rw [h1,← hmm],h2⟩)
 have CBA : Hid (∀ W,Below W1.heap.size W1 W → Calls Tryz.prog 31 #[.agg #[.int .i64 kb,.int .i64 nb,.int .i64 gb,.int .i64 lob,.int .i64 hib,.slice Sb0 sb0.length tb0,.slice Sb1 sb1.length tb1,.slice Sb2 sb2.length tb2,.slice Sb3 sb3.length tb3,.slice Sb4 sb4.length tb4,.slice Sb5 sb5.length tb5],.agg #[.int .i64 ka,.int .i64 na,.int .i64 ga,.int .i64 loa,.int .i64 hia,.slice Sa0 sa0.length ta0,.slice Sa1 sa1.length ta1,.slice Sa2 sa2.length ta2,.slice Sa3 sa3.length ta3,.slice Sa4 sa4.length ta4,.slice Sa5 sa5.length ta5]] W fun e W' => e = .returned (.int .i64 (-kk)) ∧ Below W.heap.size W W') := Lib.hid (fun W h => (cmpB_ok _ _ W _ _ Rb.out Ra.out (BV.below Eb.out (BW.out W h)) (BV.below Ea.out (BW.out W h))).mono fun e W' ⟨h1,h2⟩ => ⟨by rw [h1,neg_cmpB,← hkk],h2⟩)
 have CAA : Hid (∀ W,Below W1.heap.size W1 W → Calls Tryz.prog 31 #[.agg #[.int .i64 ka,.int .i64 na,.int .i64 ga,.int .i64 loa,.int .i64 hia,.slice Sa0 sa0.length ta0,.slice Sa1 sa1.length ta1,.slice Sa2 sa2.length ta2,.slice Sa3 sa3.length ta3,.slice Sa4 sa4.length ta4,.slice Sa5 sa5.length ta5],.agg #[.int .i64 ka,.int .i64 na,.int .i64 ga,.int .i64 loa,.int .i64 hia,.slice Sa0 sa0.length ta0,.slice Sa1 sa1.length ta1,.slice Sa2 sa2.length ta2,.slice Sa3 sa3.length ta3,.slice Sa4 sa4.length ta4,.slice Sa5 sa5.length ta5]] W fun e W' => e = .returned (.int .i64 0) ∧ Below W.heap.size W W') := Lib.hid (fun W h => (cmpB_ok _ _ W _ _ Ra.out Ra.out (BV.below Ea.out (BW.out W h)) (BV.below Ea.out (BW.out W h))).mono fun e W' ⟨h1,h2⟩ => ⟨by rw [h1,(ord_both neg_cmpB tri_cmpB (.mk ka na ga loa hia sa0 sa1 sa2 sa3 sa4 sa5) (.mk ka na ga loa hia sa0 sa1 sa2 sa3 sa4 sa5) (.mk ka na ga loa hia sa0 sa1 sa2 sa3 sa4 sa5)).1],h2⟩)
 have SAB : Hid (∀ W,Below W1.heap.size W1 W → Calls Tryz.prog 20 #[.agg #[.int .i64 ka,.int .i64 na,.int .i64 ga,.int .i64 loa,.int .i64 hia,.slice Sa0 sa0.length ta0,.slice Sa1 sa1.length ta1,.slice Sa2 sa2.length ta2,.slice Sa3 sa3.length ta3,.slice Sa4 sa4.length ta4,.slice Sa5 sa5.length ta5],.agg #[.int .i64 kb,.int .i64 nb,.int .i64 gb,.int .i64 lob,.int .i64 hib,.slice Sb0 sb0.length tb0,.slice Sb1 sb1.length tb1,.slice Sb2 sb2.length tb2,.slice Sb3 sb3.length tb3,.slice Sb4 sb4.length tb4,.slice Sb5 sb5.length tb5]] W fun e W' => e = .returned (.bool (kk == 0)) ∧ Below W.heap.size W W') := Lib.hid (fun W h => (rsame_ok _ _ W _ _ Ra.out Rb.out (BV.below Ea.out (BW.out W h)) (BV.below Eb.out (BW.out W h))).mono fun e W' ⟨h1,h2⟩ => ⟨by rw [h1,← hkk],h2⟩)
 have TAB : Hid (∀ W,Below W1.heap.size W1 W → Calls Tryz.prog 33 #[.agg #[.int .i64 ka,.int .i64 na,.int .i64 ga,.int .i64 loa,.int .i64 hia,.slice Sa0 sa0.length ta0,.slice Sa1 sa1.length ta1,.slice Sa2 sa2.length ta2,.slice Sa3 sa3.length ta3,.slice Sa4 sa4.length ta4,.slice Sa5 sa5.length ta5],.agg #[.int .i64 kb,.int .i64 nb,.int .i64 gb,.int .i64 lob,.int .i64 hib,.slice Sb0 sb0.length tb0,.slice Sb1 sb1.length tb1,.slice Sb2 sb2.length tb2,.slice Sb3 sb3.length tb3,.slice Sb4 sb4.length tb4,.slice Sb5 sb5.length tb5]] W fun e W' => e = .returned (.bool (kk == 0)) ∧ Below W.heap.size W W') := Lib.hid (fun W h => (same_ok _ _ W _ _ Ra.out Rb.out (BV.below Ea.out (BW.out W h)) (BV.below Eb.out (BW.out W h))).mono fun e W' ⟨h1,h2⟩ => ⟨by rw [h1,← hkk],h2⟩)
 have LAB : Hid (∀ W,Below W1.heap.size W1 W → Calls Tryz.prog 32 #[.agg #[.int .i64 ja,.slice Ua xa.length va],.agg #[.int .i64 jb,.slice Ub xb.length vb]] W fun e W' => e = .returned (.int .i64 pp) ∧ Below W.heap.size W W') := Lib.hid (fun W h => (cmpL_ok _ _ _ _ W _ _ (TsP.below Fa.out (BW.out W h)) (TsP.below Fb.out (BW.out W h))).mono fun e W' ⟨h1,h2⟩ => ⟨by rw [h1,← hpp],h2⟩)
 have LBC : Hid (∀ W,Below W1.heap.size W1 W → Calls Tryz.prog 32 #[.agg #[.int .i64 jb,.slice Ub xb.length vb],.agg #[.int .i64 jc,.slice Uc xc.length vc]] W fun e W' => e = .returned (.int .i64 qq) ∧ Below W.heap.size W W') := Lib.hid (fun W h => (cmpL_ok _ _ _ _ W _ _ (TsP.below Fb.out (BW.out W h)) (TsP.below Fc.out (BW.out W h))).mono fun e W' ⟨h1,h2⟩ => ⟨by rw [h1,← hqq],h2⟩)
 have LAC : Hid (∀ W,Below W1.heap.size W1 W → Calls Tryz.prog 32 #[.agg #[.int .i64 ja,.slice Ua xa.length va],.agg #[.int .i64 jc,.slice Uc xc.length vc]] W fun e W' => e = .returned (.int .i64 rr) ∧ Below W.heap.size W W') := Lib.hid (fun W h => (cmpL_ok _ _ _ _ W _ _ (TsP.below Fa.out (BW.out W h)) (TsP.below Fc.out (BW.out W h))).mono fun e W' ⟨h1,h2⟩ => ⟨by rw [h1,← hrr],h2⟩)
 have LBA : Hid (∀ W,Below W1.heap.size W1 W → Calls Tryz.prog 32 #[.agg #[.int .i64 jb,.slice Ub xb.length vb],.agg #[.int .i64 ja,.slice Ua xa.length va]] W fun e W' => e = .returned (.int .i64 (-pp)) ∧ Below W.heap.size W W') := Lib.hid (fun W h => (cmpL_ok _ _ _ _ W _ _ (TsP.below Fb.out (BW.out W h)) (TsP.below Fa.out (BW.out W h))).mono fun e W' ⟨h1,h2⟩ => ⟨by rw [h1,neg_cmpL,← hpp],h2⟩)
 have LAA : Hid (∀ W,Below W1.heap.size W1 W → Calls Tryz.prog 32 #[.agg #[.int .i64 ja,.slice Ua xa.length va],.agg #[.int .i64 ja,.slice Ua xa.length va]] W fun e W' => e = .returned (.int .i64 0) ∧ Below W.heap.size W W') := Lib.hid (fun W h => (cmpL_ok _ _ _ _ W _ _ (TsP.below Fa.out (BW.out W h)) (TsP.below Fa.out (BW.out W h))).mono fun e W' ⟨h1,h2⟩ => ⟨by rw [h1,(ord_both neg_cmpL tri_cmpL ⟨ja,xa⟩ ⟨ja,xa⟩ ⟨ja,xa⟩).1],h2⟩)
 have PAB : Hid (∀ W,Below W1.heap.size W1 W → Calls Tryz.prog 34 #[.agg #[.int .i64 ja,.slice Ua xa.length va],.agg #[.int .i64 jb,.slice Ub xb.length vb]] W fun e W' => e = .returned (.bool (pp == 0)) ∧ Below W.heap.size W W') := Lib.hid (fun W h => (rsameL_ok _ _ _ _ W _ _ (TsP.below Fa.out (BW.out W h)) (TsP.below Fb.out (BW.out W h))).mono fun e W' ⟨h1,h2⟩ => ⟨by rw [h1,← hpp],h2⟩)
 have QAB : Hid (∀ W,Below W1.heap.size W1 W → Calls Tryz.prog 35 #[.agg #[.int .i64 ja,.slice Ua xa.length va],.agg #[.int .i64 jb,.slice Ub xb.length vb]] W fun e W' => e = .returned (.bool (pp == 0)) ∧ Below W.heap.size W W') := Lib.hid (fun W h => (sameL_ok _ _ _ _ W _ _ (TsP.below Fa.out (BW.out W h)) (TsP.below Fb.out (BW.out W h))).mono fun e W' ⟨h1,h2⟩ => ⟨by rw [h1,← hpp],h2⟩)
 have OB : Hid ((kk ≤ 0 → ll ≤ 0 → mm ≤ 0) ∧ (0 ≤ kk → 0 ≤ ll → 0 ≤ mm)) := Lib.hid (by rw [hkk,hll,hmm]; exact (ord_both neg_cmpB tri_cmpB _ _ _).2)
 have OL : Hid ((pp ≤ 0 → qq ≤ 0 → rr ≤ 0) ∧ (0 ≤ pp → 0 ≤ qq → 0 ≤ rr)) := Lib.hid (by rw [hpp,hqq,hrr]; exact (ord_both neg_cmpL tri_cmpL _ _ _).2)
 have GK : Hid (Sg kk) := Lib.hid (by rw [hkk]; exact sg_cmpB _ _)
 have GP : Hid (Sg pp) := Lib.hid (by rw [hpp]; exact sg_cmpL _ _)
 have hsz3 : ∀ b ∈ [.mk ka na ga loa hia sa0 sa1 sa2 sa3 sa4 sa5,.mk kb nb gb lob hib sb0 sb1 sb2 sb3 sb4 sb5,.mk kc nc gc loc hic sc0 sc1 sc2 sc3 sc4 sc5],szB b ≤ 1048576 := by intro b hb; simp at hb; rcases hb with rfl | rfl | rfl <;> assumption
 have SM := Lib.hid (fun W v h => small_any _ W v hsz3 h)
 clear hsz3
 have HBe : Hid (∀ W,Below w.heap.size w W → Cs (fun _ => True) W (encBs [.mk ka na ga loa hia sa0 sa1 sa2 sa3 sa4 sa5,.mk kb nb gb lob hib sb0 sb1 sb2 sb3 sb4 sb5,.mk kc nc gc loc hic sc0 sc1 sc2 sc3 sc4 sc5]) ([.int .i64 ka,.int .i64 na,.int .i64 ga,.int .i64 loa,.int .i64 hia,.slice Sa0 sa0.length ta0,.slice Sa1 sa1.length ta1,.slice Sa2 sa2.length ta2,.slice Sa3 sa3.length ta3,.slice Sa4 sa4.length ta4,.slice Sa5 sa5.length ta5] ++ ([.int .i64 kb,.int .i64 nb,.int .i64 gb,.int .i64 lob,.int .i64 hib,.slice Sb0 sb0.length tb0,.slice Sb1 sb1.length tb1,.slice Sb2 sb2.length tb2,.slice Sb3 sb3.length tb3,.slice Sb4 sb4.length tb4,.slice Sb5 sb5.length tb5] ++ [.int .i64 kc,.int .i64 nc,.int .i64 gc,.int .i64 loc,.int .i64 hic,.slice Sc0 sc0.length tc0,.slice Sc1 sc1.length tc1,.slice Sc2 sc2.length tc2,.slice Sc3 sc3.length tc3,.slice Sc4 sc4.length tc4,.slice Sc5 sc5.length tc5]))) := Lib.hid (fun W h => by
  have := Cs.append (cs_be Ra.out (BV.below Ea.out h)) (Cs.append (cs_be Rb.out (BV.below Eb.out h)) (cs_be Rc.out (BV.below Ec.out h)))
  simpa [encBs] using this)
 have HLe : Hid (∀ W,Below w.heap.size w W → Cs (fun _ => True) W (encLs [⟨ja,xa⟩,⟨jb,xb⟩,⟨jc,xc⟩]) [.int .i64 ja,.slice Ua xa.length va,.int .i64 jb,.slice Ub xb.length vb,.int .i64 jc,.slice Uc xc.length vc]) := Lib.hid (fun W h => by
  have c2 := fun {z : Int} (h : InR z) => Cs.one (w := W) (x := .int z) (u := .int .i64 z) ⟨rfl,h⟩
  exact Cs.append (c2 qa) (Cs.append (Cs.one (TsP.below Fa.out h)) (Cs.append (c2 qb) (Cs.append (Cs.one (TsP.below Fb.out h)) (Cs.append (c2 qc) (Cs.one (TsP.below Fc.out h)))))))
 clear hkk hll hmm hpp hqq hrr
 go_enter Tryz.func6,Tryz.ntmps6
 go_upto_region 1 with fail
 rw [← HW1.out,← HN5.out,← HN4.out,← HN3.out,← HN2.out,← HN1.out,← HN0.out]
 go_wp2_with fail
 refine (sane_ok _).mono ?_
 rintro e w2 ⟨rfl,hb2⟩
 dsimp only
 have HB_w2 := Lib.hid hb2
 have m0 : ∀ o,w2.cell? ⟨B0,o,none⟩ = W1.cell? ⟨B0,o,none⟩ := fun o => hb2.cell (p := ⟨B0,o,none⟩) l0
 have m1 : ∀ o,w2.cell? ⟨B1,o,none⟩ = W1.cell? ⟨B1,o,none⟩ := fun o => hb2.cell (p := ⟨B1,o,none⟩) l1
 have m2 : ∀ o,w2.cell? ⟨B2,o,none⟩ = W1.cell? ⟨B2,o,none⟩ := fun o => hb2.cell (p := ⟨B2,o,none⟩) l2
 have m3 : ∀ o,w2.cell? ⟨B3,o,none⟩ = W1.cell? ⟨B3,o,none⟩ := fun o => hb2.cell (p := ⟨B3,o,none⟩) l3
 have m4 : ∀ o,w2.cell? ⟨B4,o,none⟩ = W1.cell? ⟨B4,o,none⟩ := fun o => hb2.cell (p := ⟨B4,o,none⟩) l4
 have m5 : ∀ o,w2.cell? ⟨B5,o,none⟩ = W1.cell? ⟨B5,o,none⟩ := fun o => hb2.cell (p := ⟨B5,o,none⟩) l5
 clear hb2
 go_wp2_with fail
 obtain ⟨w3,hw3⟩ : ∃ z,z = w2.alloc (.cells #[.int .i64 ka,.int .i64 na,.int .i64 ga,.int .i64 loa,.int .i64 hia,.slice Sa0 sa0.length ta0,.slice Sa1 sa1.length ta1,.slice Sa2 sa2.length ta2,.slice Sa3 sa3.length ta3,.slice Sa4 sa4.length ta4,.slice Sa5 sa5.length ta5,.int .i64 kb,.int .i64 nb,.int .i64 gb,.int .i64 lob,.int .i64 hib,.slice Sb0 sb0.length tb0,.slice Sb1 sb1.length tb1,.slice Sb2 sb2.length tb2,.slice Sb3 sb3.length tb3,.slice Sb4 sb4.length tb4,.slice Sb5 sb5.length tb5,.int .i64 kc,.int .i64 nc,.int .i64 gc,.int .i64 loc,.int .i64 hic,.slice Sc0 sc0.length tc0,.slice Sc1 sc1.length tc1,.slice Sc2 sc2.length tc2,.slice Sc3 sc3.length tc3,.slice Sc4 sc4.length tc4,.slice Sc5 sc5.length tc5] 28) := ⟨_,rfl⟩
 rw [← hw3]
 have hb : Below w2.heap.size w2 w3 := by rw [hw3]; exact (Below.refl _ _).alloc (Nat.le_refl _) _
 have k3 : w3.heap[w2.heap.size]? = some (.cells #[.int .i64 ka,.int .i64 na,.int .i64 ga,.int .i64 loa,.int .i64 hia,.slice Sa0 sa0.length ta0,.slice Sa1 sa1.length ta1,.slice Sa2 sa2.length ta2,.slice Sa3 sa3.length ta3,.slice Sa4 sa4.length ta4,.slice Sa5 sa5.length ta5,.int .i64 kb,.int .i64 nb,.int .i64 gb,.int .i64 lob,.int .i64 hib,.slice Sb0 sb0.length tb0,.slice Sb1 sb1.length tb1,.slice Sb2 sb2.length tb2,.slice Sb3 sb3.length tb3,.slice Sb4 sb4.length tb4,.slice Sb5 sb5.length tb5,.int .i64 kc,.int .i64 nc,.int .i64 gc,.int .i64 loc,.int .i64 hic,.slice Sc0 sc0.length tc0,.slice Sc1 sc1.length tc1,.slice Sc2 sc2.length tc2,.slice Sc3 sc3.length tc3,.slice Sc4 sc4.length tc4,.slice Sc5 sc5.length tc5] 28) := by rw [hw3]; exact World.alloc_heap_new w2 _
 clear m0 m1 m2 m3 m4 m5
 have HB_w3 : Hid (Below W1.heap.size W1 w3) := Lib.hid (HB_w2.out.trans (hb.mono HB_w2.out.size))
 have m0 : ∀ o,w3.cell? ⟨B0,o,none⟩ = W1.cell? ⟨B0,o,none⟩ := fun o => HB_w3.out.cell (p := ⟨B0,o,none⟩) l0
 have m1 : ∀ o,w3.cell? ⟨B1,o,none⟩ = W1.cell? ⟨B1,o,none⟩ := fun o => HB_w3.out.cell (p := ⟨B1,o,none⟩) l1
 have m2 : ∀ o,w3.cell? ⟨B2,o,none⟩ = W1.cell? ⟨B2,o,none⟩ := fun o => HB_w3.out.cell (p := ⟨B2,o,none⟩) l2
 have m3 : ∀ o,w3.cell? ⟨B3,o,none⟩ = W1.cell? ⟨B3,o,none⟩ := fun o => HB_w3.out.cell (p := ⟨B3,o,none⟩) l3
 have m4 : ∀ o,w3.cell? ⟨B4,o,none⟩ = W1.cell? ⟨B4,o,none⟩ := fun o => HB_w3.out.cell (p := ⟨B4,o,none⟩) l4
 have m5 : ∀ o,w3.cell? ⟨B5,o,none⟩ = W1.cell? ⟨B5,o,none⟩ := fun o => HB_w3.out.cell (p := ⟨B5,o,none⟩) l5
 clear hb
 refine (SM.out w3 _ (vat_of_cells (n:=3) k3 (HBe.out w3 (BW.out w3 HB_w3.out)) (by unfold maxLen; omega))).mono ?_
 rintro e w4 ⟨⟨r,rfl⟩,hb⟩
 dsimp only
 clear k3 hw3
 clear m0 m1 m2 m3 m4 m5
 have HB_w4 : Hid (Below W1.heap.size W1 w4) := Lib.hid (HB_w3.out.trans (hb.mono HB_w3.out.size))
 have m0 : ∀ o,w4.cell? ⟨B0,o,none⟩ = W1.cell? ⟨B0,o,none⟩ := fun o => HB_w4.out.cell (p := ⟨B0,o,none⟩) l0
 have m1 : ∀ o,w4.cell? ⟨B1,o,none⟩ = W1.cell? ⟨B1,o,none⟩ := fun o => HB_w4.out.cell (p := ⟨B1,o,none⟩) l1
 have m2 : ∀ o,w4.cell? ⟨B2,o,none⟩ = W1.cell? ⟨B2,o,none⟩ := fun o => HB_w4.out.cell (p := ⟨B2,o,none⟩) l2
 have m3 : ∀ o,w4.cell? ⟨B3,o,none⟩ = W1.cell? ⟨B3,o,none⟩ := fun o => HB_w4.out.cell (p := ⟨B3,o,none⟩) l3
 have m4 : ∀ o,w4.cell? ⟨B4,o,none⟩ = W1.cell? ⟨B4,o,none⟩ := fun o => HB_w4.out.cell (p := ⟨B4,o,none⟩) l4
 have m5 : ∀ o,w4.cell? ⟨B5,o,none⟩ = W1.cell? ⟨B5,o,none⟩ := fun o => HB_w4.out.cell (p := ⟨B5,o,none⟩) l5
 clear hb
 cases r
 ·go_wp2_with fail
  go_ret
  exact ⟨rfl,BW.out _ HB_w4.out⟩
 go_wp2_with fail
 obtain ⟨w5,hw5⟩ : ∃ z,z = w4.alloc (.cells #[.int .i64 ja,.slice Ua xa.length va,.int .i64 jb,.slice Ub xb.length vb,.int .i64 jc,.slice Uc xc.length vc] 54) := ⟨_,rfl⟩
 rw [← hw5]
 have hb : Below w4.heap.size w4 w5 := by rw [hw5]; exact (Below.refl _ _).alloc (Nat.le_refl _) _
 have k5 : w5.heap[w4.heap.size]? = some (.cells #[.int .i64 ja,.slice Ua xa.length va,.int .i64 jb,.slice Ub xb.length vb,.int .i64 jc,.slice Uc xc.length vc] 54) := by rw [hw5]; exact World.alloc_heap_new w4 _
 clear m0 m1 m2 m3 m4 m5
 have HB_w5 : Hid (Below W1.heap.size W1 w5) := Lib.hid (HB_w4.out.trans (hb.mono HB_w4.out.size))
 have m0 : ∀ o,w5.cell? ⟨B0,o,none⟩ = W1.cell? ⟨B0,o,none⟩ := fun o => HB_w5.out.cell (p := ⟨B0,o,none⟩) l0
 have m1 : ∀ o,w5.cell? ⟨B1,o,none⟩ = W1.cell? ⟨B1,o,none⟩ := fun o => HB_w5.out.cell (p := ⟨B1,o,none⟩) l1
 have m2 : ∀ o,w5.cell? ⟨B2,o,none⟩ = W1.cell? ⟨B2,o,none⟩ := fun o => HB_w5.out.cell (p := ⟨B2,o,none⟩) l2
 have m3 : ∀ o,w5.cell? ⟨B3,o,none⟩ = W1.cell? ⟨B3,o,none⟩ := fun o => HB_w5.out.cell (p := ⟨B3,o,none⟩) l3
 have m4 : ∀ o,w5.cell? ⟨B4,o,none⟩ = W1.cell? ⟨B4,o,none⟩ := fun o => HB_w5.out.cell (p := ⟨B4,o,none⟩) l4
 have m5 : ∀ o,w5.cell? ⟨B5,o,none⟩ = W1.cell? ⟨B5,o,none⟩ := fun o => HB_w5.out.cell (p := ⟨B5,o,none⟩) l5
 clear hb
 refine (labels_any [⟨ja,xa⟩,⟨jb,xb⟩,⟨jc,xc⟩] w5 _ (vat_of_cells (n:=3) k5 (HLe.out w5 (BW.out w5 HB_w5.out)) (by unfold maxLen; omega))).mono ?_
 rintro e w6 ⟨⟨r,rfl⟩,hb⟩
 dsimp only
 clear k5 hw5
 clear m0 m1 m2 m3 m4 m5
 have HB_w6 : Hid (Below W1.heap.size W1 w6) := Lib.hid (HB_w5.out.trans (hb.mono HB_w5.out.size))
 have m0 : ∀ o,w6.cell? ⟨B0,o,none⟩ = W1.cell? ⟨B0,o,none⟩ := fun o => HB_w6.out.cell (p := ⟨B0,o,none⟩) l0
 have m1 : ∀ o,w6.cell? ⟨B1,o,none⟩ = W1.cell? ⟨B1,o,none⟩ := fun o => HB_w6.out.cell (p := ⟨B1,o,none⟩) l1
 have m2 : ∀ o,w6.cell? ⟨B2,o,none⟩ = W1.cell? ⟨B2,o,none⟩ := fun o => HB_w6.out.cell (p := ⟨B2,o,none⟩) l2
 have m3 : ∀ o,w6.cell? ⟨B3,o,none⟩ = W1.cell? ⟨B3,o,none⟩ := fun o => HB_w6.out.cell (p := ⟨B3,o,none⟩) l3
 have m4 : ∀ o,w6.cell? ⟨B4,o,none⟩ = W1.cell? ⟨B4,o,none⟩ := fun o => HB_w6.out.cell (p := ⟨B4,o,none⟩) l4
 have m5 : ∀ o,w6.cell? ⟨B5,o,none⟩ = W1.cell? ⟨B5,o,none⟩ := fun o => HB_w6.out.cell (p := ⟨B5,o,none⟩) l5
 clear hb
 cases r
 ·go_wp2_with fail
  go_ret
  exact ⟨rfl,BW.out _ HB_w6.out⟩
 go_upto_region 5 with fail
 refine start_ (n:=12) (S:=fun w' => (∀ o,w'.cell? ⟨B0,o,none⟩ = W1.cell? ⟨B0,o,none⟩) ∧ (∀ o,w'.cell? ⟨B1,o,none⟩ = W1.cell? ⟨B1,o,none⟩) ∧ (∀ o,w'.cell? ⟨B2,o,none⟩ = W1.cell? ⟨B2,o,none⟩) ∧ (∀ o,w'.cell? ⟨B3,o,none⟩ = W1.cell? ⟨B3,o,none⟩) ∧ (∀ o,w'.cell? ⟨B4,o,none⟩ = W1.cell? ⟨B4,o,none⟩) ∧ (∀ o,w'.cell? ⟨B5,o,none⟩ = W1.cell? ⟨B5,o,none⟩)) (ds := []) #[f_,f_,f_,f_,f_,f_,f_,f_,f_,f_,f_,f_] (by kernel_rfl) rfl rfl ⟨m0,m1,m2,m3,m4,m5⟩ (fun hHeld => ?_)
 refine tv_ (i:=0) (N:=some 35) (v:=?_) (a':=?_) rfl rfl (by kernel_rfl) (fun _ _ _ h => h) (Or.inl ⟨by rfl,?_⟩) hHeld ?_ ?_
 rotate_left;rintro w' ⟨s0,s1,s2,s3,s4,s5⟩;go_simp;with_reducible rfl;rotate_left;simp only [Act.put,sA_,sB_,sC_,i64_w,i32_w];rfl
 refine tv_ (i:=1) (N:=some 36) (v:=?_) (a':=?_) rfl rfl (by kernel_rfl) (fun _ _ _ h => h) (Or.inl ⟨by rfl,?_⟩) hHeld ?_ ?_
 rotate_left;rintro w' ⟨s0,s1,s2,s3,s4,s5⟩;go_simp;with_reducible rfl;rotate_left;simp only [Act.put,sA_,sB_,sC_,i64_w,i32_w];rfl
 refine tv_ (i:=3) (N:=some 38) (v:=?_) (a':=?_) rfl rfl (by kernel_rfl) (fun _ _ _ h => h) (Or.inl ⟨by rfl,?_⟩) hHeld ?_ ?_
 rotate_left;rintro w' ⟨s0,s1,s2,s3,s4,s5⟩;go_simp;with_reducible rfl;rotate_left;simp only [Act.put,sA_,sB_,sC_,i64_w,i32_w];rfl
 refine tv_ (i:=4) (N:=some 39) (v:=?_) (a':=?_) rfl rfl (by kernel_rfl) (fun _ _ _ h => h) (Or.inl ⟨by rfl,?_⟩) hHeld ?_ ?_
 rotate_left;rintro w' ⟨s0,s1,s2,s3,s4,s5⟩;go_simp;with_reducible rfl;rotate_left;simp only [Act.put,sA_,sB_,sC_,i64_w,i32_w];rfl
 refine tv_ (i:=6) (N:=some 41) (v:=?_) (a':=?_) rfl rfl (by kernel_rfl) (fun _ _ _ h => h) (Or.inl ⟨by rfl,?_⟩) hHeld ?_ ?_
 rotate_left;rintro w' ⟨s0,s1,s2,s3,s4,s5⟩;go_simp;with_reducible rfl;rotate_left;simp only [Act.put,sA_,sB_,sC_,i64_w,i32_w];rfl
 refine tv_ (i:=7) (N:=some 42) (v:=?_) (a':=?_) rfl rfl (by kernel_rfl) (fun _ _ _ h => h) (Or.inl ⟨by rfl,?_⟩) hHeld ?_ ?_
 rotate_left;rintro w' ⟨s0,s1,s2,s3,s4,s5⟩;go_simp;with_reducible rfl;rotate_left;simp only [Act.put,sA_,sB_,sC_,i64_w,i32_w];rfl
 refine one_ (i:=2) (N:=some 37) #[t_,t_,t_,t_,t_,f_,t_,t_,f_,f_,f_,f_] rfl rfl (by kernel_rfl) (by decide) (fun K hK => ?_)
 refine goes_ Tryz.func31 (by kernel_rfl) rfl #[.agg #[.int .i64 ka,.int .i64 na,.int .i64 ga,.int .i64 loa,.int .i64 hia,.slice Sa0 sa0.length ta0,.slice Sa1 sa1.length ta1,.slice Sa2 sa2.length ta2,.slice Sa3 sa3.length ta3,.slice Sa4 sa4.length ta4,.slice Sa5 sa5.length ta5],.agg #[.int .i64 kb,.int .i64 nb,.int .i64 gb,.int .i64 lob,.int .i64 hib,.slice Sb0 sb0.length tb0,.slice Sb1 sb1.length tb1,.slice Sb2 sb2.length tb2,.slice Sb3 sb3.length tb3,.slice Sb4 sb4.length tb4,.slice Sb5 sb5.length tb5]] (by rfl) rfl rfl (by simp only [List.map_toArray,List.map_cons,List.map_nil]; rfl) ?_
 refine (CAB.out _ HB_w6.out.drew).mono ?_
 rintro e y5_2 ⟨rfl,hb⟩
 have HB_y5_2 : Hid (Below W1.heap.size W1 y5_2) := Lib.hid (HB_w6.out.drew.trans (hb.mono HB_w6.out.size))
 clear hb
 refine ⟨_,rfl,?_⟩
 refine hK.out _ _ ⟨(fun o => HB_y5_2.out.cell (p := ⟨B0,o,none⟩) l0),(fun o => HB_y5_2.out.cell (p := ⟨B1,o,none⟩) l1),(fun o => HB_y5_2.out.cell (p := ⟨B2,o,none⟩) l2),(fun o => HB_y5_2.out.cell (p := ⟨B3,o,none⟩) l3),(fun o => HB_y5_2.out.cell (p := ⟨B4,o,none⟩) l4),(fun o => HB_y5_2.out.cell (p := ⟨B5,o,none⟩) l5)⟩ (fun hHeld => ?_)
 clear hK K
 refine norm_ (a':=?_) ?_ ?_
 rotate_left
 ·show Act.put _ (some 37) _ = _
  simp only [Act.put,sA_,sB_,sC_,i64_w,i32_w]
  rfl
 refine one_ (i:=5) (N:=some 40) #[t_,t_,t_,t_,t_,t_,t_,t_,f_,f_,f_,f_] rfl rfl (by kernel_rfl) (by decide) (fun K hK => ?_)
 refine goes_ Tryz.func31 (by kernel_rfl) rfl #[.agg #[.int .i64 kb,.int .i64 nb,.int .i64 gb,.int .i64 lob,.int .i64 hib,.slice Sb0 sb0.length tb0,.slice Sb1 sb1.length tb1,.slice Sb2 sb2.length tb2,.slice Sb3 sb3.length tb3,.slice Sb4 sb4.length tb4,.slice Sb5 sb5.length tb5],.agg #[.int .i64 kc,.int .i64 nc,.int .i64 gc,.int .i64 loc,.int .i64 hic,.slice Sc0 sc0.length tc0,.slice Sc1 sc1.length tc1,.slice Sc2 sc2.length tc2,.slice Sc3 sc3.length tc3,.slice Sc4 sc4.length tc4,.slice Sc5 sc5.length tc5]] (by rfl) rfl rfl (by simp only [List.map_toArray,List.map_cons,List.map_nil]; rfl) ?_
 refine (CBC.out _ HB_y5_2.out).mono ?_
 rintro e y5_5 ⟨rfl,hb⟩
 have HB_y5_5 : Hid (Below W1.heap.size W1 y5_5) := Lib.hid (HB_y5_2.out.trans (hb.mono HB_y5_2.out.size))
 clear hb
 refine ⟨_,rfl,?_⟩
 refine hK.out _ _ ⟨(fun o => HB_y5_5.out.cell (p := ⟨B0,o,none⟩) l0),(fun o => HB_y5_5.out.cell (p := ⟨B1,o,none⟩) l1),(fun o => HB_y5_5.out.cell (p := ⟨B2,o,none⟩) l2),(fun o => HB_y5_5.out.cell (p := ⟨B3,o,none⟩) l3),(fun o => HB_y5_5.out.cell (p := ⟨B4,o,none⟩) l4),(fun o => HB_y5_5.out.cell (p := ⟨B5,o,none⟩) l5)⟩ (fun hHeld => ?_)
 clear hK K
 refine norm_ (a':=?_) ?_ ?_
 rotate_left
 ·show Act.put _ (some 40) _ = _
  simp only [Act.put,sA_,sB_,sC_,i64_w,i32_w]
  rfl
 refine one_ (i:=8) (N:=some 43) #[t_,t_,t_,t_,t_,t_,t_,t_,t_,f_,f_,f_] rfl rfl (by kernel_rfl) (by decide) (fun K hK => ?_)
 refine goes_ Tryz.func31 (by kernel_rfl) rfl #[.agg #[.int .i64 ka,.int .i64 na,.int .i64 ga,.int .i64 loa,.int .i64 hia,.slice Sa0 sa0.length ta0,.slice Sa1 sa1.length ta1,.slice Sa2 sa2.length ta2,.slice Sa3 sa3.length ta3,.slice Sa4 sa4.length ta4,.slice Sa5 sa5.length ta5],.agg #[.int .i64 kc,.int .i64 nc,.int .i64 gc,.int .i64 loc,.int .i64 hic,.slice Sc0 sc0.length tc0,.slice Sc1 sc1.length tc1,.slice Sc2 sc2.length tc2,.slice Sc3 sc3.length tc3,.slice Sc4 sc4.length tc4,.slice Sc5 sc5.length tc5]] (by rfl) rfl rfl (by simp only [List.map_toArray,List.map_cons,List.map_nil]; rfl) ?_
 refine (CAC.out _ HB_y5_5.out).mono ?_
 rintro e y5_8 ⟨rfl,hb⟩
 have HB_y5_8 : Hid (Below W1.heap.size W1 y5_8) := Lib.hid (HB_y5_5.out.trans (hb.mono HB_y5_5.out.size))
 clear hb
 refine ⟨_,rfl,?_⟩
 refine hK.out _ _ ⟨(fun o => HB_y5_8.out.cell (p := ⟨B0,o,none⟩) l0),(fun o => HB_y5_8.out.cell (p := ⟨B1,o,none⟩) l1),(fun o => HB_y5_8.out.cell (p := ⟨B2,o,none⟩) l2),(fun o => HB_y5_8.out.cell (p := ⟨B3,o,none⟩) l3),(fun o => HB_y5_8.out.cell (p := ⟨B4,o,none⟩) l4),(fun o => HB_y5_8.out.cell (p := ⟨B5,o,none⟩) l5)⟩ (fun hHeld => ?_)
 clear hK K
 refine norm_ (a':=?_) ?_ ?_
 rotate_left
 ·show Act.put _ (some 43) _ = _
  simp only [Act.put,sA_,sB_,sC_,i64_w,i32_w]
  rfl
 refine pv_ (i:=9) (N:=some 13) (v:=?_) (a':=?_) rfl rfl (by kernel_rfl) (fun _ _ _ h => h) (Or.inl ⟨by rfl,?_⟩) ?_ ?_
 rotate_left;intro w';go_simp;with_reducible rfl;rotate_left;simp only [Act.put,sA_,sB_,sC_,i64_w,i32_w];rfl
 refine pv_ (i:=10) (N:=some 14) (v:=?_) (a':=?_) rfl rfl (by kernel_rfl) (fun _ _ _ h => h) (Or.inl ⟨by rfl,?_⟩) ?_ ?_
 rotate_left;intro w';go_simp;with_reducible rfl;rotate_left;simp only [Act.put,sA_,sB_,sC_,i64_w,i32_w];rfl
 refine pv_ (i:=11) (N:=some 15) (v:=?_) (a':=?_) rfl rfl (by kernel_rfl) (fun _ _ _ h => h) (Or.inl ⟨by rfl,?_⟩) ?_ ?_
 rotate_left;intro w';go_simp;with_reducible rfl;rotate_left;simp only [Act.put,sA_,sB_,sC_,i64_w,i32_w];rfl
 refine done_ (by kernel_rfl) ?_
 clear hHeld
 clear m0 m1 m2 m3 m4 m5
 have m0 : ∀ o,y5_8.cell? ⟨B0,o,none⟩ = W1.cell? ⟨B0,o,none⟩ := fun o => HB_y5_8.out.cell (p := ⟨B0,o,none⟩) l0
 have m1 : ∀ o,y5_8.cell? ⟨B1,o,none⟩ = W1.cell? ⟨B1,o,none⟩ := fun o => HB_y5_8.out.cell (p := ⟨B1,o,none⟩) l1
 have m2 : ∀ o,y5_8.cell? ⟨B2,o,none⟩ = W1.cell? ⟨B2,o,none⟩ := fun o => HB_y5_8.out.cell (p := ⟨B2,o,none⟩) l2
 have m3 : ∀ o,y5_8.cell? ⟨B3,o,none⟩ = W1.cell? ⟨B3,o,none⟩ := fun o => HB_y5_8.out.cell (p := ⟨B3,o,none⟩) l3
 have m4 : ∀ o,y5_8.cell? ⟨B4,o,none⟩ = W1.cell? ⟨B4,o,none⟩ := fun o => HB_y5_8.out.cell (p := ⟨B4,o,none⟩) l4
 have m5 : ∀ o,y5_8.cell? ⟨B5,o,none⟩ = W1.cell? ⟨B5,o,none⟩ := fun o => HB_y5_8.out.cell (p := ⟨B5,o,none⟩) l5
 go_upto_region 6 with fail
 refine start_ (n:=12) (S:=fun w' => (∀ o,w'.cell? ⟨B0,o,none⟩ = W1.cell? ⟨B0,o,none⟩) ∧ (∀ o,w'.cell? ⟨B1,o,none⟩ = W1.cell? ⟨B1,o,none⟩) ∧ (∀ o,w'.cell? ⟨B2,o,none⟩ = W1.cell? ⟨B2,o,none⟩) ∧ (∀ o,w'.cell? ⟨B3,o,none⟩ = W1.cell? ⟨B3,o,none⟩) ∧ (∀ o,w'.cell? ⟨B4,o,none⟩ = W1.cell? ⟨B4,o,none⟩) ∧ (∀ o,w'.cell? ⟨B5,o,none⟩ = W1.cell? ⟨B5,o,none⟩)) (ds := []) #[f_,f_,f_,f_,f_,f_,f_,f_,f_,f_,f_,f_] (by kernel_rfl) rfl rfl ⟨m0,m1,m2,m3,m4,m5⟩ (fun hHeld => ?_)
 refine tv_ (i:=0) (N:=some 44) (v:=?_) (a':=?_) rfl rfl (by kernel_rfl) (fun _ _ _ h => h) (Or.inl ⟨by rfl,?_⟩) hHeld ?_ ?_
 rotate_left;rintro w' ⟨s0,s1,s2,s3,s4,s5⟩;go_simp;with_reducible rfl;rotate_left;simp only [Act.put,sA_,sB_,sC_,i64_w,i32_w];rfl
 refine tv_ (i:=1) (N:=some 45) (v:=?_) (a':=?_) rfl rfl (by kernel_rfl) (fun _ _ _ h => h) (Or.inl ⟨by rfl,?_⟩) hHeld ?_ ?_
 rotate_left;rintro w' ⟨s0,s1,s2,s3,s4,s5⟩;go_simp;with_reducible rfl;rotate_left;simp only [Act.put,sA_,sB_,sC_,i64_w,i32_w];rfl
 refine tv_ (i:=3) (N:=some 47) (v:=?_) (a':=?_) rfl rfl (by kernel_rfl) (fun _ _ _ h => h) (Or.inl ⟨by rfl,?_⟩) hHeld ?_ ?_
 rotate_left;rintro w' ⟨s0,s1,s2,s3,s4,s5⟩;go_simp;with_reducible rfl;rotate_left;simp only [Act.put,sA_,sB_,sC_,i64_w,i32_w];rfl
 refine tv_ (i:=4) (N:=some 48) (v:=?_) (a':=?_) rfl rfl (by kernel_rfl) (fun _ _ _ h => h) (Or.inl ⟨by rfl,?_⟩) hHeld ?_ ?_
 rotate_left;rintro w' ⟨s0,s1,s2,s3,s4,s5⟩;go_simp;with_reducible rfl;rotate_left;simp only [Act.put,sA_,sB_,sC_,i64_w,i32_w];rfl
 refine tv_ (i:=6) (N:=some 50) (v:=?_) (a':=?_) rfl rfl (by kernel_rfl) (fun _ _ _ h => h) (Or.inl ⟨by rfl,?_⟩) hHeld ?_ ?_
 rotate_left;rintro w' ⟨s0,s1,s2,s3,s4,s5⟩;go_simp;with_reducible rfl;rotate_left;simp only [Act.put,sA_,sB_,sC_,i64_w,i32_w];rfl
 refine tv_ (i:=7) (N:=some 51) (v:=?_) (a':=?_) rfl rfl (by kernel_rfl) (fun _ _ _ h => h) (Or.inl ⟨by rfl,?_⟩) hHeld ?_ ?_
 rotate_left;rintro w' ⟨s0,s1,s2,s3,s4,s5⟩;go_simp;with_reducible rfl;rotate_left;simp only [Act.put,sA_,sB_,sC_,i64_w,i32_w];rfl
 refine one_ (i:=2) (N:=some 46) #[t_,t_,t_,t_,t_,f_,t_,t_,f_,f_,f_,f_] rfl rfl (by kernel_rfl) (by decide) (fun K hK => ?_)
 refine goes_ Tryz.func32 (by kernel_rfl) rfl #[.agg #[.int .i64 ja,.slice Ua xa.length va],.agg #[.int .i64 jb,.slice Ub xb.length vb]] (by rfl) rfl rfl (by simp only [List.map_toArray,List.map_cons,List.map_nil]; rfl) ?_
 refine (LAB.out _ HB_y5_8.out.drew).mono ?_
 rintro e y6_2 ⟨rfl,hb⟩
 have HB_y6_2 : Hid (Below W1.heap.size W1 y6_2) := Lib.hid (HB_y5_8.out.drew.trans (hb.mono HB_y5_8.out.size))
 clear hb
 refine ⟨_,rfl,?_⟩
 refine hK.out _ _ ⟨(fun o => HB_y6_2.out.cell (p := ⟨B0,o,none⟩) l0),(fun o => HB_y6_2.out.cell (p := ⟨B1,o,none⟩) l1),(fun o => HB_y6_2.out.cell (p := ⟨B2,o,none⟩) l2),(fun o => HB_y6_2.out.cell (p := ⟨B3,o,none⟩) l3),(fun o => HB_y6_2.out.cell (p := ⟨B4,o,none⟩) l4),(fun o => HB_y6_2.out.cell (p := ⟨B5,o,none⟩) l5)⟩ (fun hHeld => ?_)
 clear hK K
 refine norm_ (a':=?_) ?_ ?_
 rotate_left
 ·show Act.put _ (some 46) _ = _
  simp only [Act.put,sA_,sB_,sC_,i64_w,i32_w]
  rfl
 refine one_ (i:=5) (N:=some 49) #[t_,t_,t_,t_,t_,t_,t_,t_,f_,f_,f_,f_] rfl rfl (by kernel_rfl) (by decide) (fun K hK => ?_)
 refine goes_ Tryz.func32 (by kernel_rfl) rfl #[.agg #[.int .i64 jb,.slice Ub xb.length vb],.agg #[.int .i64 jc,.slice Uc xc.length vc]] (by rfl) rfl rfl (by simp only [List.map_toArray,List.map_cons,List.map_nil]; rfl) ?_
 refine (LBC.out _ HB_y6_2.out).mono ?_
 rintro e y6_5 ⟨rfl,hb⟩
 have HB_y6_5 : Hid (Below W1.heap.size W1 y6_5) := Lib.hid (HB_y6_2.out.trans (hb.mono HB_y6_2.out.size))
 clear hb
 refine ⟨_,rfl,?_⟩
 refine hK.out _ _ ⟨(fun o => HB_y6_5.out.cell (p := ⟨B0,o,none⟩) l0),(fun o => HB_y6_5.out.cell (p := ⟨B1,o,none⟩) l1),(fun o => HB_y6_5.out.cell (p := ⟨B2,o,none⟩) l2),(fun o => HB_y6_5.out.cell (p := ⟨B3,o,none⟩) l3),(fun o => HB_y6_5.out.cell (p := ⟨B4,o,none⟩) l4),(fun o => HB_y6_5.out.cell (p := ⟨B5,o,none⟩) l5)⟩ (fun hHeld => ?_)
 clear hK K
 refine norm_ (a':=?_) ?_ ?_
 rotate_left
 ·show Act.put _ (some 49) _ = _
  simp only [Act.put,sA_,sB_,sC_,i64_w,i32_w]
  rfl
 refine one_ (i:=8) (N:=some 52) #[t_,t_,t_,t_,t_,t_,t_,t_,t_,f_,f_,f_] rfl rfl (by kernel_rfl) (by decide) (fun K hK => ?_)
 refine goes_ Tryz.func32 (by kernel_rfl) rfl #[.agg #[.int .i64 ja,.slice Ua xa.length va],.agg #[.int .i64 jc,.slice Uc xc.length vc]] (by rfl) rfl rfl (by simp only [List.map_toArray,List.map_cons,List.map_nil]; rfl) ?_
 refine (LAC.out _ HB_y6_5.out).mono ?_
 rintro e y6_8 ⟨rfl,hb⟩
 have HB_y6_8 : Hid (Below W1.heap.size W1 y6_8) := Lib.hid (HB_y6_5.out.trans (hb.mono HB_y6_5.out.size))
 clear hb
 refine ⟨_,rfl,?_⟩
 refine hK.out _ _ ⟨(fun o => HB_y6_8.out.cell (p := ⟨B0,o,none⟩) l0),(fun o => HB_y6_8.out.cell (p := ⟨B1,o,none⟩) l1),(fun o => HB_y6_8.out.cell (p := ⟨B2,o,none⟩) l2),(fun o => HB_y6_8.out.cell (p := ⟨B3,o,none⟩) l3),(fun o => HB_y6_8.out.cell (p := ⟨B4,o,none⟩) l4),(fun o => HB_y6_8.out.cell (p := ⟨B5,o,none⟩) l5)⟩ (fun hHeld => ?_)
 clear hK K
 refine norm_ (a':=?_) ?_ ?_
 rotate_left
 ·show Act.put _ (some 52) _ = _
  simp only [Act.put,sA_,sB_,sC_,i64_w,i32_w]
  rfl
 refine pv_ (i:=9) (N:=some 16) (v:=?_) (a':=?_) rfl rfl (by kernel_rfl) (fun _ _ _ h => h) (Or.inl ⟨by rfl,?_⟩) ?_ ?_
 rotate_left;intro w';go_simp;with_reducible rfl;rotate_left;simp only [Act.put,sA_,sB_,sC_,i64_w,i32_w];rfl
 refine pv_ (i:=10) (N:=some 17) (v:=?_) (a':=?_) rfl rfl (by kernel_rfl) (fun _ _ _ h => h) (Or.inl ⟨by rfl,?_⟩) ?_ ?_
 rotate_left;intro w';go_simp;with_reducible rfl;rotate_left;simp only [Act.put,sA_,sB_,sC_,i64_w,i32_w];rfl
 refine pv_ (i:=11) (N:=some 18) (v:=?_) (a':=?_) rfl rfl (by kernel_rfl) (fun _ _ _ h => h) (Or.inl ⟨by rfl,?_⟩) ?_ ?_
 rotate_left;intro w';go_simp;with_reducible rfl;rotate_left;simp only [Act.put,sA_,sB_,sC_,i64_w,i32_w];rfl
 refine done_ (by kernel_rfl) ?_
 clear hHeld
 clear m0 m1 m2 m3 m4 m5
 have m0 : ∀ o,y6_8.cell? ⟨B0,o,none⟩ = W1.cell? ⟨B0,o,none⟩ := fun o => HB_y6_8.out.cell (p := ⟨B0,o,none⟩) l0
 have m1 : ∀ o,y6_8.cell? ⟨B1,o,none⟩ = W1.cell? ⟨B1,o,none⟩ := fun o => HB_y6_8.out.cell (p := ⟨B1,o,none⟩) l1
 have m2 : ∀ o,y6_8.cell? ⟨B2,o,none⟩ = W1.cell? ⟨B2,o,none⟩ := fun o => HB_y6_8.out.cell (p := ⟨B2,o,none⟩) l2
 have m3 : ∀ o,y6_8.cell? ⟨B3,o,none⟩ = W1.cell? ⟨B3,o,none⟩ := fun o => HB_y6_8.out.cell (p := ⟨B3,o,none⟩) l3
 have m4 : ∀ o,y6_8.cell? ⟨B4,o,none⟩ = W1.cell? ⟨B4,o,none⟩ := fun o => HB_y6_8.out.cell (p := ⟨B4,o,none⟩) l4
 have m5 : ∀ o,y6_8.cell? ⟨B5,o,none⟩ = W1.cell? ⟨B5,o,none⟩ := fun o => HB_y6_8.out.cell (p := ⟨B5,o,none⟩) l5
 go_upto_region 7 with fail
 go_cut [104] (fun s wx => s = .bool false ∧ Hid (Below W1.heap.size W1 wx))
 case first =>
  have gk1 : -1 ≤ kk := GK.out.1
  have gk2 : kk ≤ 1 := GK.out.2
  go_wp2_with fail
  refine (CBA.out _ HB_y6_8.out).mono ?_
  rintro e z7_CBA ⟨rfl,hb⟩
  dsimp only
  clear m0 m1 m2 m3 m4 m5
  have HB_z7_CBA : Hid (Below W1.heap.size W1 z7_CBA) := Lib.hid (HB_y6_8.out.trans (hb.mono HB_y6_8.out.size))
  have m0 : ∀ o,z7_CBA.cell? ⟨B0,o,none⟩ = W1.cell? ⟨B0,o,none⟩ := fun o => HB_z7_CBA.out.cell (p := ⟨B0,o,none⟩) l0
  have m1 : ∀ o,z7_CBA.cell? ⟨B1,o,none⟩ = W1.cell? ⟨B1,o,none⟩ := fun o => HB_z7_CBA.out.cell (p := ⟨B1,o,none⟩) l1
  have m2 : ∀ o,z7_CBA.cell? ⟨B2,o,none⟩ = W1.cell? ⟨B2,o,none⟩ := fun o => HB_z7_CBA.out.cell (p := ⟨B2,o,none⟩) l2
  have m3 : ∀ o,z7_CBA.cell? ⟨B3,o,none⟩ = W1.cell? ⟨B3,o,none⟩ := fun o => HB_z7_CBA.out.cell (p := ⟨B3,o,none⟩) l3
  have m4 : ∀ o,z7_CBA.cell? ⟨B4,o,none⟩ = W1.cell? ⟨B4,o,none⟩ := fun o => HB_z7_CBA.out.cell (p := ⟨B4,o,none⟩) l4
  have m5 : ∀ o,z7_CBA.cell? ⟨B5,o,none⟩ = W1.cell? ⟨B5,o,none⟩ := fun o => HB_z7_CBA.out.cell (p := ⟨B5,o,none⟩) l5
  clear hb
  go_wp2_with fail
  refine (CAA.out _ HB_z7_CBA.out).mono ?_
  rintro e z7_CAA ⟨rfl,hb⟩
  dsimp only
  clear m0 m1 m2 m3 m4 m5
  have HB_z7_CAA : Hid (Below W1.heap.size W1 z7_CAA) := Lib.hid (HB_z7_CBA.out.trans (hb.mono HB_z7_CBA.out.size))
  have m0 : ∀ o,z7_CAA.cell? ⟨B0,o,none⟩ = W1.cell? ⟨B0,o,none⟩ := fun o => HB_z7_CAA.out.cell (p := ⟨B0,o,none⟩) l0
  have m1 : ∀ o,z7_CAA.cell? ⟨B1,o,none⟩ = W1.cell? ⟨B1,o,none⟩ := fun o => HB_z7_CAA.out.cell (p := ⟨B1,o,none⟩) l1
  have m2 : ∀ o,z7_CAA.cell? ⟨B2,o,none⟩ = W1.cell? ⟨B2,o,none⟩ := fun o => HB_z7_CAA.out.cell (p := ⟨B2,o,none⟩) l2
  have m3 : ∀ o,z7_CAA.cell? ⟨B3,o,none⟩ = W1.cell? ⟨B3,o,none⟩ := fun o => HB_z7_CAA.out.cell (p := ⟨B3,o,none⟩) l3
  have m4 : ∀ o,z7_CAA.cell? ⟨B4,o,none⟩ = W1.cell? ⟨B4,o,none⟩ := fun o => HB_z7_CAA.out.cell (p := ⟨B4,o,none⟩) l4
  have m5 : ∀ o,z7_CAA.cell? ⟨B5,o,none⟩ = W1.cell? ⟨B5,o,none⟩ := fun o => HB_z7_CAA.out.cell (p := ⟨B5,o,none⟩) l5
  clear hb
  go_wp2_with fail
  refine (SAB.out _ HB_z7_CAA.out).mono ?_
  rintro e z7_SAB ⟨rfl,hb⟩
  dsimp only
  clear m0 m1 m2 m3 m4 m5
  have HB_z7_SAB : Hid (Below W1.heap.size W1 z7_SAB) := Lib.hid (HB_z7_CAA.out.trans (hb.mono HB_z7_CAA.out.size))
  have m0 : ∀ o,z7_SAB.cell? ⟨B0,o,none⟩ = W1.cell? ⟨B0,o,none⟩ := fun o => HB_z7_SAB.out.cell (p := ⟨B0,o,none⟩) l0
  have m1 : ∀ o,z7_SAB.cell? ⟨B1,o,none⟩ = W1.cell? ⟨B1,o,none⟩ := fun o => HB_z7_SAB.out.cell (p := ⟨B1,o,none⟩) l1
  have m2 : ∀ o,z7_SAB.cell? ⟨B2,o,none⟩ = W1.cell? ⟨B2,o,none⟩ := fun o => HB_z7_SAB.out.cell (p := ⟨B2,o,none⟩) l2
  have m3 : ∀ o,z7_SAB.cell? ⟨B3,o,none⟩ = W1.cell? ⟨B3,o,none⟩ := fun o => HB_z7_SAB.out.cell (p := ⟨B3,o,none⟩) l3
  have m4 : ∀ o,z7_SAB.cell? ⟨B4,o,none⟩ = W1.cell? ⟨B4,o,none⟩ := fun o => HB_z7_SAB.out.cell (p := ⟨B4,o,none⟩) l4
  have m5 : ∀ o,z7_SAB.cell? ⟨B5,o,none⟩ = W1.cell? ⟨B5,o,none⟩ := fun o => HB_z7_SAB.out.cell (p := ⟨B5,o,none⟩) l5
  clear hb
  go_wp2_with fail
  refine (TAB.out _ HB_z7_SAB.out).mono ?_
  rintro e z7_TAB ⟨rfl,hb⟩
  dsimp only
  clear m0 m1 m2 m3 m4 m5
  have HB_z7_TAB : Hid (Below W1.heap.size W1 z7_TAB) := Lib.hid (HB_z7_SAB.out.trans (hb.mono HB_z7_SAB.out.size))
  have m0 : ∀ o,z7_TAB.cell? ⟨B0,o,none⟩ = W1.cell? ⟨B0,o,none⟩ := fun o => HB_z7_TAB.out.cell (p := ⟨B0,o,none⟩) l0
  have m1 : ∀ o,z7_TAB.cell? ⟨B1,o,none⟩ = W1.cell? ⟨B1,o,none⟩ := fun o => HB_z7_TAB.out.cell (p := ⟨B1,o,none⟩) l1
  have m2 : ∀ o,z7_TAB.cell? ⟨B2,o,none⟩ = W1.cell? ⟨B2,o,none⟩ := fun o => HB_z7_TAB.out.cell (p := ⟨B2,o,none⟩) l2
  have m3 : ∀ o,z7_TAB.cell? ⟨B3,o,none⟩ = W1.cell? ⟨B3,o,none⟩ := fun o => HB_z7_TAB.out.cell (p := ⟨B3,o,none⟩) l3
  have m4 : ∀ o,z7_TAB.cell? ⟨B4,o,none⟩ = W1.cell? ⟨B4,o,none⟩ := fun o => HB_z7_TAB.out.cell (p := ⟨B4,o,none⟩) l4
  have m5 : ∀ o,z7_TAB.cell? ⟨B5,o,none⟩ = W1.cell? ⟨B5,o,none⟩ := fun o => HB_z7_TAB.out.cell (p := ⟨B5,o,none⟩) l5
  clear hb
  rcases Int.lt_trichotomy kk 0 with hk | hk | hk
  ·have hk1 : kk ≤ 0 := by omega
   have hk2 : ¬ (0 ≤ kk) := by omega
   by_cases hl : ll ≤ 0
   ·have hm : mm ≤ 0 := OB.out.1 hk1 hl
    have hm2 : ¬ (0 < mm) := by omega
    go_wp2_with fail
    go_meet
    case rel => exact ⟨by simp,HB_z7_TAB⟩
   ·go_wp2_with fail
    go_meet
    case rel => exact ⟨by simp,HB_z7_TAB⟩
  ·subst hk
   rcases Int.lt_trichotomy ll 0 with hl | hl | hl
   ·have hl1 : ll ≤ 0 := by omega
    have hl2 : ¬ (0 ≤ ll) := by omega
    have hm : mm ≤ 0 := OB.out.1 (by omega) hl1
    have hm2 : ¬ (0 < mm) := by omega
    go_wp2_with fail
    go_meet
    case rel => exact ⟨by simp,HB_z7_TAB⟩
   ·subst hl
    have hm : mm ≤ 0 := OB.out.1 (by omega) (by omega)
    have hm2 : ¬ (0 < mm) := by omega
    have hm3 : 0 ≤ mm := OB.out.2 (by omega) (by omega)
    have hm4 : ¬ (mm < 0) := by omega
    go_wp2_with fail
    go_meet
    case rel => exact ⟨by simp,HB_z7_TAB⟩
   ·have hl1 : ¬ (ll ≤ 0) := by omega
    have hl2 : 0 ≤ ll := by omega
    have hm3 : 0 ≤ mm := OB.out.2 (by omega) hl2
    have hm4 : ¬ (mm < 0) := by omega
    go_wp2_with fail
    go_meet
    case rel => exact ⟨by simp,HB_z7_TAB⟩
  ·have hk1 : ¬ (kk ≤ 0) := by omega
   have hk2 : 0 ≤ kk := by omega
   by_cases hl : 0 ≤ ll
   ·have hm3 : 0 ≤ mm := OB.out.2 hk2 hl
    have hm4 : ¬ (mm < 0) := by omega
    go_wp2_with fail
    go_meet
    case rel => exact ⟨by simp,HB_z7_TAB⟩
   ·go_wp2_with fail
    go_meet
    case rel => exact ⟨by simp,HB_z7_TAB⟩
 case rest =>
 obtain ⟨rfl,HBc⟩ := hcut
 obtain ⟨w8,rfl⟩ : ∃ z,z = wc := ⟨_,rfl⟩
 have HB_w8 := HBc
 clear m0 m1 m2 m3 m4 m5
 have m0 : ∀ o,w8.cell? ⟨B0,o,none⟩ = W1.cell? ⟨B0,o,none⟩ := fun o => HB_w8.out.cell (p := ⟨B0,o,none⟩) l0
 have m1 : ∀ o,w8.cell? ⟨B1,o,none⟩ = W1.cell? ⟨B1,o,none⟩ := fun o => HB_w8.out.cell (p := ⟨B1,o,none⟩) l1
 have m2 : ∀ o,w8.cell? ⟨B2,o,none⟩ = W1.cell? ⟨B2,o,none⟩ := fun o => HB_w8.out.cell (p := ⟨B2,o,none⟩) l2
 have m3 : ∀ o,w8.cell? ⟨B3,o,none⟩ = W1.cell? ⟨B3,o,none⟩ := fun o => HB_w8.out.cell (p := ⟨B3,o,none⟩) l3
 have m4 : ∀ o,w8.cell? ⟨B4,o,none⟩ = W1.cell? ⟨B4,o,none⟩ := fun o => HB_w8.out.cell (p := ⟨B4,o,none⟩) l4
 have m5 : ∀ o,w8.cell? ⟨B5,o,none⟩ = W1.cell? ⟨B5,o,none⟩ := fun o => HB_w8.out.cell (p := ⟨B5,o,none⟩) l5
 have gp1 : -1 ≤ pp := GP.out.1
 have gp2 : pp ≤ 1 := GP.out.2
 go_wp2_with fail
 refine (LBA.out _ HB_w8.out).mono ?_
 rintro e z9_LBA ⟨rfl,hb⟩
 dsimp only
 clear m0 m1 m2 m3 m4 m5
 have HB_z9_LBA : Hid (Below W1.heap.size W1 z9_LBA) := Lib.hid (HB_w8.out.trans (hb.mono HB_w8.out.size))
 have m0 : ∀ o,z9_LBA.cell? ⟨B0,o,none⟩ = W1.cell? ⟨B0,o,none⟩ := fun o => HB_z9_LBA.out.cell (p := ⟨B0,o,none⟩) l0
 have m1 : ∀ o,z9_LBA.cell? ⟨B1,o,none⟩ = W1.cell? ⟨B1,o,none⟩ := fun o => HB_z9_LBA.out.cell (p := ⟨B1,o,none⟩) l1
 have m2 : ∀ o,z9_LBA.cell? ⟨B2,o,none⟩ = W1.cell? ⟨B2,o,none⟩ := fun o => HB_z9_LBA.out.cell (p := ⟨B2,o,none⟩) l2
 have m3 : ∀ o,z9_LBA.cell? ⟨B3,o,none⟩ = W1.cell? ⟨B3,o,none⟩ := fun o => HB_z9_LBA.out.cell (p := ⟨B3,o,none⟩) l3
 have m4 : ∀ o,z9_LBA.cell? ⟨B4,o,none⟩ = W1.cell? ⟨B4,o,none⟩ := fun o => HB_z9_LBA.out.cell (p := ⟨B4,o,none⟩) l4
 have m5 : ∀ o,z9_LBA.cell? ⟨B5,o,none⟩ = W1.cell? ⟨B5,o,none⟩ := fun o => HB_z9_LBA.out.cell (p := ⟨B5,o,none⟩) l5
 clear hb
 go_wp2_with fail
 refine (LAA.out _ HB_z9_LBA.out).mono ?_
 rintro e z9_LAA ⟨rfl,hb⟩
 dsimp only
 clear m0 m1 m2 m3 m4 m5
 have HB_z9_LAA : Hid (Below W1.heap.size W1 z9_LAA) := Lib.hid (HB_z9_LBA.out.trans (hb.mono HB_z9_LBA.out.size))
 have m0 : ∀ o,z9_LAA.cell? ⟨B0,o,none⟩ = W1.cell? ⟨B0,o,none⟩ := fun o => HB_z9_LAA.out.cell (p := ⟨B0,o,none⟩) l0
 have m1 : ∀ o,z9_LAA.cell? ⟨B1,o,none⟩ = W1.cell? ⟨B1,o,none⟩ := fun o => HB_z9_LAA.out.cell (p := ⟨B1,o,none⟩) l1
 have m2 : ∀ o,z9_LAA.cell? ⟨B2,o,none⟩ = W1.cell? ⟨B2,o,none⟩ := fun o => HB_z9_LAA.out.cell (p := ⟨B2,o,none⟩) l2
 have m3 : ∀ o,z9_LAA.cell? ⟨B3,o,none⟩ = W1.cell? ⟨B3,o,none⟩ := fun o => HB_z9_LAA.out.cell (p := ⟨B3,o,none⟩) l3
 have m4 : ∀ o,z9_LAA.cell? ⟨B4,o,none⟩ = W1.cell? ⟨B4,o,none⟩ := fun o => HB_z9_LAA.out.cell (p := ⟨B4,o,none⟩) l4
 have m5 : ∀ o,z9_LAA.cell? ⟨B5,o,none⟩ = W1.cell? ⟨B5,o,none⟩ := fun o => HB_z9_LAA.out.cell (p := ⟨B5,o,none⟩) l5
 clear hb
 go_wp2_with fail
 refine (PAB.out _ HB_z9_LAA.out).mono ?_
 rintro e z9_PAB ⟨rfl,hb⟩
 dsimp only
 clear m0 m1 m2 m3 m4 m5
 have HB_z9_PAB : Hid (Below W1.heap.size W1 z9_PAB) := Lib.hid (HB_z9_LAA.out.trans (hb.mono HB_z9_LAA.out.size))
 have m0 : ∀ o,z9_PAB.cell? ⟨B0,o,none⟩ = W1.cell? ⟨B0,o,none⟩ := fun o => HB_z9_PAB.out.cell (p := ⟨B0,o,none⟩) l0
 have m1 : ∀ o,z9_PAB.cell? ⟨B1,o,none⟩ = W1.cell? ⟨B1,o,none⟩ := fun o => HB_z9_PAB.out.cell (p := ⟨B1,o,none⟩) l1
 have m2 : ∀ o,z9_PAB.cell? ⟨B2,o,none⟩ = W1.cell? ⟨B2,o,none⟩ := fun o => HB_z9_PAB.out.cell (p := ⟨B2,o,none⟩) l2
 have m3 : ∀ o,z9_PAB.cell? ⟨B3,o,none⟩ = W1.cell? ⟨B3,o,none⟩ := fun o => HB_z9_PAB.out.cell (p := ⟨B3,o,none⟩) l3
 have m4 : ∀ o,z9_PAB.cell? ⟨B4,o,none⟩ = W1.cell? ⟨B4,o,none⟩ := fun o => HB_z9_PAB.out.cell (p := ⟨B4,o,none⟩) l4
 have m5 : ∀ o,z9_PAB.cell? ⟨B5,o,none⟩ = W1.cell? ⟨B5,o,none⟩ := fun o => HB_z9_PAB.out.cell (p := ⟨B5,o,none⟩) l5
 clear hb
 go_wp2_with fail
 refine (QAB.out _ HB_z9_PAB.out).mono ?_
 rintro e z9_QAB ⟨rfl,hb⟩
 dsimp only
 clear m0 m1 m2 m3 m4 m5
 have HB_z9_QAB : Hid (Below W1.heap.size W1 z9_QAB) := Lib.hid (HB_z9_PAB.out.trans (hb.mono HB_z9_PAB.out.size))
 have m0 : ∀ o,z9_QAB.cell? ⟨B0,o,none⟩ = W1.cell? ⟨B0,o,none⟩ := fun o => HB_z9_QAB.out.cell (p := ⟨B0,o,none⟩) l0
 have m1 : ∀ o,z9_QAB.cell? ⟨B1,o,none⟩ = W1.cell? ⟨B1,o,none⟩ := fun o => HB_z9_QAB.out.cell (p := ⟨B1,o,none⟩) l1
 have m2 : ∀ o,z9_QAB.cell? ⟨B2,o,none⟩ = W1.cell? ⟨B2,o,none⟩ := fun o => HB_z9_QAB.out.cell (p := ⟨B2,o,none⟩) l2
 have m3 : ∀ o,z9_QAB.cell? ⟨B3,o,none⟩ = W1.cell? ⟨B3,o,none⟩ := fun o => HB_z9_QAB.out.cell (p := ⟨B3,o,none⟩) l3
 have m4 : ∀ o,z9_QAB.cell? ⟨B4,o,none⟩ = W1.cell? ⟨B4,o,none⟩ := fun o => HB_z9_QAB.out.cell (p := ⟨B4,o,none⟩) l4
 have m5 : ∀ o,z9_QAB.cell? ⟨B5,o,none⟩ = W1.cell? ⟨B5,o,none⟩ := fun o => HB_z9_QAB.out.cell (p := ⟨B5,o,none⟩) l5
 clear hb
 rcases Int.lt_trichotomy pp 0 with hk | hk | hk
 ·have hk1 : pp ≤ 0 := by omega
  have hk2 : ¬ (0 ≤ pp) := by omega
  by_cases hl : qq ≤ 0
  ·have hm : rr ≤ 0 := OL.out.1 hk1 hl
   have hm2 : ¬ (0 < rr) := by omega
   go_wp2_with fail
   go_ret
   exact ⟨by simp,BW.out _ HB_z9_QAB.out⟩
  ·go_wp2_with fail
   go_ret
   exact ⟨by simp,BW.out _ HB_z9_QAB.out⟩
 ·subst hk
  rcases Int.lt_trichotomy qq 0 with hl | hl | hl
  ·have hl1 : qq ≤ 0 := by omega
   have hl2 : ¬ (0 ≤ qq) := by omega
   have hm : rr ≤ 0 := OL.out.1 (by omega) hl1
   have hm2 : ¬ (0 < rr) := by omega
   go_wp2_with fail
   go_ret
   exact ⟨by simp,BW.out _ HB_z9_QAB.out⟩
  ·subst hl
   have hm : rr ≤ 0 := OL.out.1 (by omega) (by omega)
   have hm2 : ¬ (0 < rr) := by omega
   have hm3 : 0 ≤ rr := OL.out.2 (by omega) (by omega)
   have hm4 : ¬ (rr < 0) := by omega
   go_wp2_with fail
   go_ret
   exact ⟨by simp,BW.out _ HB_z9_QAB.out⟩
  ·have hl1 : ¬ (qq ≤ 0) := by omega
   have hl2 : 0 ≤ qq := by omega
   have hm3 : 0 ≤ rr := OL.out.2 (by omega) hl2
   have hm4 : ¬ (rr < 0) := by omega
   go_wp2_with fail
   go_ret
   exact ⟨by simp,BW.out _ HB_z9_QAB.out⟩
 ·have hk1 : ¬ (pp ≤ 0) := by omega
  have hk2 : 0 ≤ pp := by omega
  by_cases hl : 0 ≤ qq
  ·have hm3 : 0 ≤ rr := OL.out.2 hk2 hl
   have hm4 : ¬ (rr < 0) := by omega
   go_wp2_with fail
   go_ret
   exact ⟨by simp,BW.out _ HB_z9_QAB.out⟩
  ·go_wp2_with fail
   go_ret
   exact ⟨by simp,BW.out _ HB_z9_QAB.out⟩
end Go.Proofs.YtjojbhkgdkcaoaaGreat
namespace Go.Proofs.YtjojbhkgdkcaoaaGreat
open Go
theorem behOrder_facts : joinedFacts Tryz.pinned.checked.prog 6 Tryz.f6 (Rows.OpenSpec.upto Rows.behOrderSpec).bare Rows.behOrderUptoRow = true := by
 unfold joinedFacts
 simp only [Bool.and_eq_true]
 repeat' refine And.intro ?_ ?_
 all_goals (as_aux_lemma => kernel_rfl)
end Go.Proofs.YtjojbhkgdkcaoaaGreat
