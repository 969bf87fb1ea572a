/- A part of the proof: texts of this session, joined. -/
import Derived.Test.YtclkokkppgchfaaNegoPlacesOwn15
import Derived.Test.YtclkokkppgchfaaShort
set_option linter.unusedSimpArgs false
set_option linter.unusedVariables false
set_option maxHeartbeats 102400000
set_option maxRecDepth 100000
namespace Go.Proofs.Ytclkokkppgchfaa
open Go.RowKit Go.Ng Go.Proofs.YtclkokkppgchfaaW.PrintLast
section
variable {P : Program} {ops : Array Oper} {Q : Exit → Act → World → Prop} {md : Region.Mode} {S : World → Prop} {ds : List Nat}
theorem pu_ {i : Nat} {N : Option Tmp} {oi : Oper} {v : Value} {fuel : Nat} {l : Array Bool} {a : Act} {w : World} (hi : ops[i]? = some oi) (hN : oi.dst = N) (hc : anyB md ops l (l.setIfInBounds i true) i = true)
    (hQ : ∀ c a w,Q (.panic c) (a.put oi.dst v) w → Q (.panic c) a w) (hy : Yields P ops oi v a) {a' : Act} (ha : a.put N v = a')
    (h : wpAnyLast P md ops Q S ds fuel (l.setIfInBounds i true) a' w) : wpAnyLast P md ops Q S ds (fuel + 1) l a w := pure_ _ hi hN hc hQ hy ha h
theorem tk_ {i : Nat} {N : Option Tmp} {oi : Oper} {v : Value} {fuel : Nat} {l : Array Bool} {a : Act} {w : World} (hi : ops[i]? = some oi) (hN : oi.dst = N) (hc : takeB md ops ds l (l.setIfInBounds i true) i = true)
    (hQ : ∀ c a w,Q (.panic c) (a.put oi.dst v) w → Q (.panic c) a w) (hy : YieldsIf P ops S oi v a) (hS : S w) {a' : Act} (ha : a.put N v = a')
    (h : wpAnyLast P md ops Q S ds fuel (l.setIfInBounds i true) a' w) : wpAnyLast P md ops Q S ds (fuel + 1) l a w := take_ _ hi hN hc hQ hy hS ha h
end
section
variable {tag : Nat → Tag} {k p : Nat} {P : PlaceM} {w : World} {mk ms md mp mi mv : Int}
theorem rpost_fail (hb : (decide (mk < 1) || decide (5 < mk) || (md != P.no) || decide (mp < 0) || decide (2147483647 < mp) || decide (mi < 0) || decide ((P.sites.length : Int) ≤ mi) || decide (mv < 0) || (decide (0 < mv) && (mk != 1)) || decide (ms < 0) || decide (32 ≤ ms)) = true) (h : RPRep tag k w p P) (hok : TagOk tag w) :
    Calls Try.prog 81 #[.pointer (some ⟨p,0,none⟩),.agg #[.int .i64 mk,.int .i64 ms,.int .i64 md,.int .i64 mp,.int .i64 mi,.int .i64 mv]] w fun e w' => e = .returned (.bool false) ∧ Fr (fun _ => False) tag tag w w' := by
  obtain ⟨av,iv,pv,h1,h2,h3,h4⟩ := h.cells
  obtain ⟨A,cap,rfl,hl1,hl2⟩ := h2.form
  unfold maxLen at hl2
  have c0 : w.cell? ⟨p,0,none⟩ = some (.int .i64 P.no) := cell_of h1 0
  have c1 : w.cell? ⟨p,1,none⟩ = some (.slice A P.sites.length cap) := cell_of h1 1
  have hpl := lt_of_heap h1
  have HB := Lib.hid hb
  clear h h1 h2 h3 h4 hb
  go_enter Try.func81,Try.ntmps81
  go_wp2_with fail
  refine start_ (n:=67) (S:=fun w' => w'.cell? ⟨p,0,none⟩ = some (.int .i64 P.no) ∧ w'.cell? ⟨p,1,none⟩ = some (.slice A P.sites.length cap) ∧ w'.cell? ⟨w.heap.size,0,none⟩ = some (.int .i64 mk) ∧ w'.cell? ⟨w.heap.size,1,none⟩ = some (.int .i64 ms) ∧ w'.cell? ⟨w.heap.size,2,none⟩ = some (.int .i64 md) ∧ w'.cell? ⟨w.heap.size,3,none⟩ = some (.int .i64 mp) ∧ w'.cell? ⟨w.heap.size,4,none⟩ = some (.int .i64 mi) ∧ w'.cell? ⟨w.heap.size,5,none⟩ = some (.int .i64 mv)) (ds := []) #[f_,f_,f_,f_,f_,f_,f_,f_,f_,f_,f_,f_,f_,f_,f_,f_,f_,f_,f_,f_,f_,f_,f_,f_,f_,f_,f_,f_,f_,f_,f_,f_,f_,f_,f_,f_,f_,f_,f_,f_,f_,f_,f_,f_,f_,f_,f_,f_,f_,f_,f_,f_,f_,f_,f_,f_,f_,f_,f_,f_,f_,f_,f_,f_,f_,f_,f_] (by kernel_rfl) rfl rfl ⟨ca c0 _,ca c1 _,by go_simp,by go_simp,by go_simp,by go_simp,by go_simp,by go_simp⟩ (fun hHeld => ?_)
  refine pu_ (i:=0) (N:=some 5) (v:=?_) (a':=?_) rfl rfl (by kernel_rfl) (fun _ _ _ h => h) (Or.inl ⟨by rfl,?_⟩) ?_ ?_
  rotate_left; intro w'; go_simp; with_reducible rfl; rotate_left; simp only [Act.put,sA_,sB_,sC_,i64_w,i32_w]; rfl
  refine tk_ (i:=1) (N:=some 6) (v:=?_) (a':=?_) rfl rfl (by kernel_rfl) (fun _ _ _ h => h) (Or.inl ⟨by rfl,?_⟩) hHeld ?_ ?_
  rotate_left; rintro w' ⟨s0,s1,s2,s3,s4,s5,s6,s7⟩; go_simp; with_reducible rfl; rotate_left; simp only [Act.put,sA_,sB_,sC_,i64_w,i32_w]; rfl
  rcases Bool.eq_false_or_eq_true (decide (mk < 1)) with g2 | g2
  · as_aux_lemma =>
     refine pu_ (i:=2) (N:=some 7) (v:=?_) (a':=?_) rfl rfl (by kernel_rfl) (fun _ _ _ h => h) (Or.inl ⟨by rfl,?_⟩) ?_ ?_
     rotate_left; intro w'; go_simp; with_reducible rfl; rotate_left; simp only [Act.put,sA_,sB_,sC_,i64_w,i32_w]; rfl
     refine pu_ (i:=3) (N:=some 8) (v:=?_) (a':=?_) rfl rfl (by kernel_rfl) (fun _ _ _ h => h) (Or.inl ⟨by rfl,?_⟩) ?_ ?_
     rotate_left; intro w'; go_simp; with_reducible rfl; rotate_left; simp only [Act.put,sA_,sB_,sC_,i64_w,i32_w]; rfl
     refine pu_ (i:=4) (N:=some 9) (v:=undef) (a':=?_) rfl rfl (by kernel_rfl) (fun _ _ _ h => h) (Or.inr ⟨by rfl,rfl⟩) ?_ ?_
     rotate_left; simp only [Act.put,sA_,sB_,sC_,i64_w,i32_w]; rfl
     refine pu_ (i:=5) (N:=some 10) (v:=undef) (a':=?_) rfl rfl (by kernel_rfl) (fun _ _ _ h => h) (Or.inr ⟨by rfl,rfl⟩) ?_ ?_
     rotate_left; simp only [Act.put,sA_,sB_,sC_,i64_w,i32_w]; rfl
     refine pu_ (i:=6) (N:=some 11) (v:=undef) (a':=?_) rfl rfl (by kernel_rfl) (fun _ _ _ h => h) (Or.inr ⟨by rfl,rfl⟩) ?_ ?_
     rotate_left; simp only [Act.put,sA_,sB_,sC_,i64_w,i32_w]; rfl
     refine pu_ (i:=7) (N:=some 12) (v:=?_) (a':=?_) rfl rfl (by kernel_rfl) (fun _ _ _ h => h) (Or.inl ⟨by rfl,?_⟩) ?_ ?_
     rotate_left; intro w'; go_simp; with_reducible rfl; rotate_left; simp only [Act.put,sA_,sB_,sC_,i64_w,i32_w]; rfl
     refine pu_ (i:=8) (N:=some 13) (v:=?_) (a':=?_) rfl rfl (by kernel_rfl) (fun _ _ _ h => h) (Or.inl ⟨by rfl,?_⟩) ?_ ?_
     rotate_left; intro w'; go_simp; with_reducible rfl; rotate_left; simp only [Act.put,sA_,sB_,sC_,i64_w,i32_w]; rfl
     refine pu_ (i:=9) (N:=some 14) (v:=undef) (a':=?_) rfl rfl (by kernel_rfl) (fun _ _ _ h => h) (Or.inr ⟨by rfl,rfl⟩) ?_ ?_
     rotate_left; simp only [Act.put,sA_,sB_,sC_,i64_w,i32_w]; rfl
     refine pu_ (i:=10) (N:=some 15) (v:=undef) (a':=?_) rfl rfl (by kernel_rfl) (fun _ _ _ h => h) (Or.inr ⟨by rfl,rfl⟩) ?_ ?_
     rotate_left; simp only [Act.put,sA_,sB_,sC_,i64_w,i32_w]; rfl
     refine pu_ (i:=11) (N:=some 16) (v:=undef) (a':=?_) rfl rfl (by kernel_rfl) (fun _ _ _ h => h) (Or.inr ⟨by rfl,rfl⟩) ?_ ?_
     rotate_left; simp only [Act.put,sA_,sB_,sC_,i64_w,i32_w]; rfl
     refine pu_ (i:=12) (N:=some 17) (v:=undef) (a':=?_) rfl rfl (by kernel_rfl) (fun _ _ _ h => h) (Or.inr ⟨by rfl,rfl⟩) ?_ ?_
     rotate_left; simp only [Act.put,sA_,sB_,sC_,i64_w,i32_w]; rfl
     as_aux_lemma =>
      refine pv_ (i:=13) (N:=some 18) (v:=undef) (a':=?_) rfl rfl (by kernel_rfl) (fun _ _ _ h => h) (Or.inr ⟨by rfl,rfl⟩) ?_ ?_
      rotate_left; simp only [Act.put,sA_,sB_,sC_,i64_w,i32_w]; rfl
      refine pu_ (i:=14) (N:=some 19) (v:=undef) (a':=?_) rfl rfl (by kernel_rfl) (fun _ _ _ h => h) (Or.inr ⟨by rfl,rfl⟩) ?_ ?_
      rotate_left; simp only [Act.put,sA_,sB_,sC_,i64_w,i32_w]; rfl
      refine pu_ (i:=15) (N:=some 20) (v:=undef) (a':=?_) rfl rfl (by kernel_rfl) (fun _ _ _ h => h) (Or.inr ⟨by rfl,rfl⟩) ?_ ?_
      rotate_left; simp only [Act.put,sA_,sB_,sC_,i64_w,i32_w]; rfl
      refine pu_ (i:=16) (N:=some 21) (v:=?_) (a':=?_) rfl rfl (by kernel_rfl) (fun _ _ _ h => h) (Or.inl ⟨by rfl,?_⟩) ?_ ?_
      rotate_left; intro w'; go_simp; with_reducible rfl; rotate_left; simp only [Act.put,sA_,sB_,sC_,i64_w,i32_w]; rfl
      refine pu_ (i:=17) (N:=some 22) (v:=?_) (a':=?_) rfl rfl (by kernel_rfl) (fun _ _ _ h => h) (Or.inl ⟨by rfl,?_⟩) ?_ ?_
      rotate_left; intro w'; go_simp; with_reducible rfl; rotate_left; simp only [Act.put,sA_,sB_,sC_,i64_w,i32_w]; rfl
      refine pu_ (i:=18) (N:=some 23) (v:=undef) (a':=?_) rfl rfl (by kernel_rfl) (fun _ _ _ h => h) (Or.inr ⟨by rfl,rfl⟩) ?_ ?_
      rotate_left; simp only [Act.put,sA_,sB_,sC_,i64_w,i32_w]; rfl
      refine pu_ (i:=19) (N:=some 24) (v:=undef) (a':=?_) rfl rfl (by kernel_rfl) (fun _ _ _ h => h) (Or.inr ⟨by rfl,rfl⟩) ?_ ?_
      rotate_left; simp only [Act.put,sA_,sB_,sC_,i64_w,i32_w]; rfl
      refine pu_ (i:=20) (N:=some 25) (v:=undef) (a':=?_) rfl rfl (by kernel_rfl) (fun _ _ _ h => h) (Or.inr ⟨by rfl,rfl⟩) ?_ ?_
      rotate_left; simp only [Act.put,sA_,sB_,sC_,i64_w,i32_w]; rfl
      refine pu_ (i:=21) (N:=some 26) (v:=?_) (a':=?_) rfl rfl (by kernel_rfl) (fun _ _ _ h => h) (Or.inl ⟨by rfl,?_⟩) ?_ ?_
      rotate_left; intro w'; go_simp; with_reducible rfl; rotate_left; simp only [Act.put,sA_,sB_,sC_,i64_w,i32_w]; rfl
      refine pu_ (i:=22) (N:=some 27) (v:=?_) (a':=?_) rfl rfl (by kernel_rfl) (fun _ _ _ h => h) (Or.inl ⟨by rfl,?_⟩) ?_ ?_
      rotate_left; intro w'; go_simp; with_reducible rfl; rotate_left; simp only [Act.put,sA_,sB_,sC_,i64_w,i32_w]; rfl
      refine pu_ (i:=23) (N:=some 28) (v:=undef) (a':=?_) rfl rfl (by kernel_rfl) (fun _ _ _ h => h) (Or.inr ⟨by rfl,rfl⟩) ?_ ?_
      rotate_left; simp only [Act.put,sA_,sB_,sC_,i64_w,i32_w]; rfl
      refine pu_ (i:=24) (N:=some 29) (v:=undef) (a':=?_) rfl rfl (by kernel_rfl) (fun _ _ _ h => h) (Or.inr ⟨by rfl,rfl⟩) ?_ ?_
      rotate_left; simp only [Act.put,sA_,sB_,sC_,i64_w,i32_w]; rfl
      as_aux_lemma =>
       refine pv_ (i:=25) (N:=some 30) (v:=undef) (a':=?_) rfl rfl (by kernel_rfl) (fun _ _ _ h => h) (Or.inr ⟨by rfl,rfl⟩) ?_ ?_
       rotate_left; simp only [Act.put,sA_,sB_,sC_,i64_w,i32_w]; rfl
       refine pu_ (i:=26) (N:=some 31) (v:=?_) (a':=?_) rfl rfl (by kernel_rfl) (fun _ _ _ h => h) (Or.inl ⟨by rfl,?_⟩) ?_ ?_
       rotate_left; intro w'; go_simp; with_reducible rfl; rotate_left; simp only [Act.put,sA_,sB_,sC_,i64_w,i32_w]; rfl
       refine pu_ (i:=27) (N:=some 32) (v:=?_) (a':=?_) rfl rfl (by kernel_rfl) (fun _ _ _ h => h) (Or.inl ⟨by rfl,?_⟩) ?_ ?_
       rotate_left; intro w'; go_simp; with_reducible rfl; rotate_left; simp only [Act.put,sA_,sB_,sC_,i64_w,i32_w]; rfl
       refine pu_ (i:=28) (N:=some 33) (v:=undef) (a':=?_) rfl rfl (by kernel_rfl) (fun _ _ _ h => h) (Or.inr ⟨by rfl,rfl⟩) ?_ ?_
       rotate_left; simp only [Act.put,sA_,sB_,sC_,i64_w,i32_w]; rfl
       refine pu_ (i:=29) (N:=some 34) (v:=undef) (a':=?_) rfl rfl (by kernel_rfl) (fun _ _ _ h => h) (Or.inr ⟨by rfl,rfl⟩) ?_ ?_
       rotate_left; simp only [Act.put,sA_,sB_,sC_,i64_w,i32_w]; rfl
       refine pu_ (i:=30) (N:=some 35) (v:=undef) (a':=?_) rfl rfl (by kernel_rfl) (fun _ _ _ h => h) (Or.inr ⟨by rfl,rfl⟩) ?_ ?_
       rotate_left; simp only [Act.put,sA_,sB_,sC_,i64_w,i32_w]; rfl
       refine pu_ (i:=31) (N:=some 36) (v:=?_) (a':=?_) rfl rfl (by kernel_rfl) (fun _ _ _ h => h) (Or.inl ⟨by rfl,?_⟩) ?_ ?_
       rotate_left; intro w'; go_simp; with_reducible rfl; rotate_left; simp only [Act.put,sA_,sB_,sC_,i64_w,i32_w]; rfl
       refine pu_ (i:=32) (N:=some 37) (v:=?_) (a':=?_) rfl rfl (by kernel_rfl) (fun _ _ _ h => h) (Or.inl ⟨by rfl,?_⟩) ?_ ?_
       rotate_left; intro w'; go_simp; with_reducible rfl; rotate_left; simp only [Act.put,sA_,sB_,sC_,i64_w,i32_w]; rfl
       refine pu_ (i:=33) (N:=some 38) (v:=undef) (a':=?_) rfl rfl (by kernel_rfl) (fun _ _ _ h => h) (Or.inr ⟨by rfl,rfl⟩) ?_ ?_
       rotate_left; simp only [Act.put,sA_,sB_,sC_,i64_w,i32_w]; rfl
       refine pu_ (i:=34) (N:=some 39) (v:=undef) (a':=?_) rfl rfl (by kernel_rfl) (fun _ _ _ h => h) (Or.inr ⟨by rfl,rfl⟩) ?_ ?_
       rotate_left; simp only [Act.put,sA_,sB_,sC_,i64_w,i32_w]; rfl
       refine pu_ (i:=35) (N:=some 40) (v:=undef) (a':=?_) rfl rfl (by kernel_rfl) (fun _ _ _ h => h) (Or.inr ⟨by rfl,rfl⟩) ?_ ?_
       rotate_left; simp only [Act.put,sA_,sB_,sC_,i64_w,i32_w]; rfl
       refine pu_ (i:=36) (N:=some 41) (v:=undef) (a':=?_) rfl rfl (by kernel_rfl) (fun _ _ _ h => h) (Or.inr ⟨by rfl,rfl⟩) ?_ ?_
       rotate_left; simp only [Act.put,sA_,sB_,sC_,i64_w,i32_w]; rfl
       as_aux_lemma =>
        refine pv_ (i:=37) (N:=some 42) (v:=undef) (a':=?_) rfl rfl (by kernel_rfl) (fun _ _ _ h => h) (Or.inr ⟨by rfl,rfl⟩) ?_ ?_
        rotate_left; simp only [Act.put,sA_,sB_,sC_,i64_w,i32_w]; rfl
        refine pu_ (i:=38) (N:=some 43) (v:=undef) (a':=?_) rfl rfl (by kernel_rfl) (fun _ _ _ h => h) (Or.inr ⟨by rfl,rfl⟩) ?_ ?_
        rotate_left; simp only [Act.put,sA_,sB_,sC_,i64_w,i32_w]; rfl
        refine pu_ (i:=39) (N:=some 44) (v:=undef) (a':=?_) rfl rfl (by kernel_rfl) (fun _ _ _ h => h) (Or.inr ⟨by rfl,rfl⟩) ?_ ?_
        rotate_left; simp only [Act.put,sA_,sB_,sC_,i64_w,i32_w]; rfl
        refine pu_ (i:=40) (N:=some 45) (v:=undef) (a':=?_) rfl rfl (by kernel_rfl) (fun _ _ _ h => h) (Or.inr ⟨by rfl,rfl⟩) ?_ ?_
        rotate_left; simp only [Act.put,sA_,sB_,sC_,i64_w,i32_w]; rfl
        refine pu_ (i:=41) (N:=some 46) (v:=?_) (a':=?_) rfl rfl (by kernel_rfl) (fun _ _ _ h => h) (Or.inl ⟨by rfl,?_⟩) ?_ ?_
        rotate_left; intro w'; go_simp; with_reducible rfl; rotate_left; simp only [Act.put,sA_,sB_,sC_,i64_w,i32_w]; rfl
        refine pu_ (i:=42) (N:=some 47) (v:=?_) (a':=?_) rfl rfl (by kernel_rfl) (fun _ _ _ h => h) (Or.inl ⟨by rfl,?_⟩) ?_ ?_
        rotate_left; intro w'; go_simp; with_reducible rfl; rotate_left; simp only [Act.put,sA_,sB_,sC_,i64_w,i32_w]; rfl
        refine pu_ (i:=43) (N:=some 48) (v:=undef) (a':=?_) rfl rfl (by kernel_rfl) (fun _ _ _ h => h) (Or.inr ⟨by rfl,rfl⟩) ?_ ?_
        rotate_left; simp only [Act.put,sA_,sB_,sC_,i64_w,i32_w]; rfl
        refine pu_ (i:=44) (N:=some 49) (v:=undef) (a':=?_) rfl rfl (by kernel_rfl) (fun _ _ _ h => h) (Or.inr ⟨by rfl,rfl⟩) ?_ ?_
        rotate_left; simp only [Act.put,sA_,sB_,sC_,i64_w,i32_w]; rfl
        refine pu_ (i:=45) (N:=some 50) (v:=undef) (a':=?_) rfl rfl (by kernel_rfl) (fun _ _ _ h => h) (Or.inr ⟨by rfl,rfl⟩) ?_ ?_
        rotate_left; simp only [Act.put,sA_,sB_,sC_,i64_w,i32_w]; rfl
        refine pu_ (i:=46) (N:=some 51) (v:=?_) (a':=?_) rfl rfl (by kernel_rfl) (fun _ _ _ h => h) (Or.inl ⟨by rfl,?_⟩) ?_ ?_
        rotate_left; intro w'; go_simp; with_reducible rfl; rotate_left; simp only [Act.put,sA_,sB_,sC_,i64_w,i32_w]; rfl
        refine pu_ (i:=47) (N:=some 52) (v:=?_) (a':=?_) rfl rfl (by kernel_rfl) (fun _ _ _ h => h) (Or.inl ⟨by rfl,?_⟩) ?_ ?_
        rotate_left; intro w'; go_simp; with_reducible rfl; rotate_left; simp only [Act.put,sA_,sB_,sC_,i64_w,i32_w]; rfl
        refine pu_ (i:=48) (N:=some 53) (v:=undef) (a':=?_) rfl rfl (by kernel_rfl) (fun _ _ _ h => h) (Or.inr ⟨by rfl,rfl⟩) ?_ ?_
        rotate_left; simp only [Act.put,sA_,sB_,sC_,i64_w,i32_w]; rfl
        as_aux_lemma =>
         refine pv_ (i:=49) (N:=some 54) (v:=undef) (a':=?_) rfl rfl (by kernel_rfl) (fun _ _ _ h => h) (Or.inr ⟨by rfl,rfl⟩) ?_ ?_
         rotate_left; simp only [Act.put,sA_,sB_,sC_,i64_w,i32_w]; rfl
         refine pu_ (i:=50) (N:=some 55) (v:=undef) (a':=?_) rfl rfl (by kernel_rfl) (fun _ _ _ h => h) (Or.inr ⟨by rfl,rfl⟩) ?_ ?_
         rotate_left; simp only [Act.put,sA_,sB_,sC_,i64_w,i32_w]; rfl
         refine pu_ (i:=51) (N:=some 56) (v:=undef) (a':=?_) rfl rfl (by kernel_rfl) (fun _ _ _ h => h) (Or.inr ⟨by rfl,rfl⟩) ?_ ?_
         rotate_left; simp only [Act.put,sA_,sB_,sC_,i64_w,i32_w]; rfl
         refine pu_ (i:=52) (N:=some 57) (v:=undef) (a':=?_) rfl rfl (by kernel_rfl) (fun _ _ _ h => h) (Or.inr ⟨by rfl,rfl⟩) ?_ ?_
         rotate_left; simp only [Act.put,sA_,sB_,sC_,i64_w,i32_w]; rfl
         refine pu_ (i:=53) (N:=some 58) (v:=undef) (a':=?_) rfl rfl (by kernel_rfl) (fun _ _ _ h => h) (Or.inr ⟨by rfl,rfl⟩) ?_ ?_
         rotate_left; simp only [Act.put,sA_,sB_,sC_,i64_w,i32_w]; rfl
         refine pu_ (i:=54) (N:=some 59) (v:=undef) (a':=?_) rfl rfl (by kernel_rfl) (fun _ _ _ h => h) (Or.inr ⟨by rfl,rfl⟩) ?_ ?_
         rotate_left; simp only [Act.put,sA_,sB_,sC_,i64_w,i32_w]; rfl
         refine pu_ (i:=55) (N:=some 60) (v:=undef) (a':=?_) rfl rfl (by kernel_rfl) (fun _ _ _ h => h) (Or.inr ⟨by rfl,rfl⟩) ?_ ?_
         rotate_left; simp only [Act.put,sA_,sB_,sC_,i64_w,i32_w]; rfl
         refine pu_ (i:=56) (N:=some 61) (v:=?_) (a':=?_) rfl rfl (by kernel_rfl) (fun _ _ _ h => h) (Or.inl ⟨by rfl,?_⟩) ?_ ?_
         rotate_left; intro w'; go_simp; with_reducible rfl; rotate_left; simp only [Act.put,sA_,sB_,sC_,i64_w,i32_w]; rfl
         refine pu_ (i:=57) (N:=some 62) (v:=?_) (a':=?_) rfl rfl (by kernel_rfl) (fun _ _ _ h => h) (Or.inl ⟨by rfl,?_⟩) ?_ ?_
         rotate_left; intro w'; go_simp; with_reducible rfl; rotate_left; simp only [Act.put,sA_,sB_,sC_,i64_w,i32_w]; rfl
         refine pu_ (i:=58) (N:=some 63) (v:=undef) (a':=?_) rfl rfl (by kernel_rfl) (fun _ _ _ h => h) (Or.inr ⟨by rfl,rfl⟩) ?_ ?_
         rotate_left; simp only [Act.put,sA_,sB_,sC_,i64_w,i32_w]; rfl
         refine pu_ (i:=59) (N:=some 64) (v:=undef) (a':=?_) rfl rfl (by kernel_rfl) (fun _ _ _ h => h) (Or.inr ⟨by rfl,rfl⟩) ?_ ?_
         rotate_left; simp only [Act.put,sA_,sB_,sC_,i64_w,i32_w]; rfl
         refine pu_ (i:=60) (N:=some 65) (v:=undef) (a':=?_) rfl rfl (by kernel_rfl) (fun _ _ _ h => h) (Or.inr ⟨by rfl,rfl⟩) ?_ ?_
         rotate_left; simp only [Act.put,sA_,sB_,sC_,i64_w,i32_w]; rfl
         as_aux_lemma =>
          refine pv_ (i:=61) (N:=some 66) (v:=?_) (a':=?_) rfl rfl (by kernel_rfl) (fun _ _ _ h => h) (Or.inl ⟨by rfl,?_⟩) ?_ ?_
          rotate_left; intro w'; go_simp; with_reducible rfl; rotate_left; simp only [Act.put,sA_,sB_,sC_,i64_w,i32_w]; rfl
          refine pu_ (i:=62) (N:=some 67) (v:=?_) (a':=?_) rfl rfl (by kernel_rfl) (fun _ _ _ h => h) (Or.inl ⟨by rfl,?_⟩) ?_ ?_
          rotate_left; intro w'; go_simp; with_reducible rfl; rotate_left; simp only [Act.put,sA_,sB_,sC_,i64_w,i32_w]; rfl
          refine pu_ (i:=63) (N:=some 68) (v:=undef) (a':=?_) rfl rfl (by kernel_rfl) (fun _ _ _ h => h) (Or.inr ⟨by rfl,rfl⟩) ?_ ?_
          rotate_left; simp only [Act.put,sA_,sB_,sC_,i64_w,i32_w]; rfl
          refine pu_ (i:=64) (N:=some 69) (v:=undef) (a':=?_) rfl rfl (by kernel_rfl) (fun _ _ _ h => h) (Or.inr ⟨by rfl,rfl⟩) ?_ ?_
          rotate_left; simp only [Act.put,sA_,sB_,sC_,i64_w,i32_w]; rfl
          refine pu_ (i:=65) (N:=some 70) (v:=undef) (a':=?_) rfl rfl (by kernel_rfl) (fun _ _ _ h => h) (Or.inr ⟨by rfl,rfl⟩) ?_ ?_
          rotate_left; simp only [Act.put,sA_,sB_,sC_,i64_w,i32_w]; rfl
          refine pu_ (i:=66) (N:=some 71) (v:=?_) (a':=?_) rfl rfl (by kernel_rfl) (fun _ _ _ h => h) (Or.inl ⟨by rfl,?_⟩) ?_ ?_
          rotate_left; intro w'; go_simp; with_reducible rfl; rotate_left; simp only [Act.put,sA_,sB_,sC_,i64_w,i32_w]; rfl
          refine done_ (by kernel_rfl) ?_
          go_wp2_with fail
          go_ret
          exact ⟨rfl,((Fr.refl hok).al _).dr⟩
  refine pu_ (i:=2) (N:=some 7) (v:=?_) (a':=?_) rfl rfl (by kernel_rfl) (fun _ _ _ h => h) (Or.inl ⟨by rfl,?_⟩) ?_ ?_
  rotate_left; intro w'; go_simp; with_reducible rfl; rotate_left; simp only [Act.put,sA_,sB_,sC_,i64_w,i32_w]; rfl
  refine pu_ (i:=3) (N:=some 8) (v:=?_) (a':=?_) rfl rfl (by kernel_rfl) (fun _ _ _ h => h) (Or.inl ⟨by rfl,?_⟩) ?_ ?_
  rotate_left; intro w'; go_simp; with_reducible rfl; rotate_left; simp only [Act.put,sA_,sB_,sC_,i64_w,i32_w]; rfl
  refine pu_ (i:=4) (N:=some 9) (v:=?_) (a':=?_) rfl rfl (by kernel_rfl) (fun _ _ _ h => h) (Or.inl ⟨by rfl,?_⟩) ?_ ?_
  rotate_left; intro w'; go_simp; with_reducible rfl; rotate_left; simp only [Act.put,sA_,sB_,sC_,i64_w,i32_w]; rfl
  refine tk_ (i:=5) (N:=some 10) (v:=?_) (a':=?_) rfl rfl (by kernel_rfl) (fun _ _ _ h => h) (Or.inl ⟨by rfl,?_⟩) hHeld ?_ ?_
  rotate_left; rintro w' ⟨s0,s1,s2,s3,s4,s5,s6,s7⟩; go_simp; with_reducible rfl; rotate_left; simp only [Act.put,sA_,sB_,sC_,i64_w,i32_w]; rfl
  rcases Bool.eq_false_or_eq_true (decide (5 < mk)) with g6 | g6
  · as_aux_lemma =>
     refine pu_ (i:=6) (N:=some 11) (v:=?_) (a':=?_) rfl rfl (by kernel_rfl) (fun _ _ _ h => h) (Or.inl ⟨by rfl,?_⟩) ?_ ?_
     rotate_left; intro w'; go_simp; with_reducible rfl; rotate_left; simp only [Act.put,sA_,sB_,sC_,i64_w,i32_w]; rfl
     refine pu_ (i:=7) (N:=some 12) (v:=?_) (a':=?_) rfl rfl (by kernel_rfl) (fun _ _ _ h => h) (Or.inl ⟨by rfl,?_⟩) ?_ ?_
     rotate_left; intro w'; go_simp; with_reducible rfl; rotate_left; simp only [Act.put,sA_,sB_,sC_,i64_w,i32_w]; rfl
     refine pu_ (i:=8) (N:=some 13) (v:=?_) (a':=?_) rfl rfl (by kernel_rfl) (fun _ _ _ h => h) (Or.inl ⟨by rfl,?_⟩) ?_ ?_
     rotate_left; intro w'; go_simp; with_reducible rfl; rotate_left; simp only [Act.put,sA_,sB_,sC_,i64_w,i32_w]; rfl
     refine pu_ (i:=9) (N:=some 14) (v:=undef) (a':=?_) rfl rfl (by kernel_rfl) (fun _ _ _ h => h) (Or.inr ⟨by rfl,rfl⟩) ?_ ?_
     rotate_left; simp only [Act.put,sA_,sB_,sC_,i64_w,i32_w]; rfl
     refine pu_ (i:=10) (N:=some 15) (v:=undef) (a':=?_) rfl rfl (by kernel_rfl) (fun _ _ _ h => h) (Or.inr ⟨by rfl,rfl⟩) ?_ ?_
     rotate_left; simp only [Act.put,sA_,sB_,sC_,i64_w,i32_w]; rfl
     refine pu_ (i:=11) (N:=some 16) (v:=undef) (a':=?_) rfl rfl (by kernel_rfl) (fun _ _ _ h => h) (Or.inr ⟨by rfl,rfl⟩) ?_ ?_
     rotate_left; simp only [Act.put,sA_,sB_,sC_,i64_w,i32_w]; rfl
     refine pu_ (i:=12) (N:=some 17) (v:=undef) (a':=?_) rfl rfl (by kernel_rfl) (fun _ _ _ h => h) (Or.inr ⟨by rfl,rfl⟩) ?_ ?_
     rotate_left; simp only [Act.put,sA_,sB_,sC_,i64_w,i32_w]; rfl
     refine pu_ (i:=13) (N:=some 18) (v:=undef) (a':=?_) rfl rfl (by kernel_rfl) (fun _ _ _ h => h) (Or.inr ⟨by rfl,rfl⟩) ?_ ?_
     rotate_left; simp only [Act.put,sA_,sB_,sC_,i64_w,i32_w]; rfl
     refine pu_ (i:=14) (N:=some 19) (v:=undef) (a':=?_) rfl rfl (by kernel_rfl) (fun _ _ _ h => h) (Or.inr ⟨by rfl,rfl⟩) ?_ ?_
     rotate_left; simp only [Act.put,sA_,sB_,sC_,i64_w,i32_w]; rfl
     refine pu_ (i:=15) (N:=some 20) (v:=undef) (a':=?_) rfl rfl (by kernel_rfl) (fun _ _ _ h => h) (Or.inr ⟨by rfl,rfl⟩) ?_ ?_
     rotate_left; simp only [Act.put,sA_,sB_,sC_,i64_w,i32_w]; rfl
     refine pu_ (i:=16) (N:=some 21) (v:=?_) (a':=?_) rfl rfl (by kernel_rfl) (fun _ _ _ h => h) (Or.inl ⟨by rfl,?_⟩) ?_ ?_
     rotate_left; intro w'; go_simp; with_reducible rfl; rotate_left; simp only [Act.put,sA_,sB_,sC_,i64_w,i32_w]; rfl
     as_aux_lemma =>
      refine pure_ (i:=17) (N:=some 22) (v:=?_) (a':=?_) #[t_,t_,t_,t_,t_,t_,t_,t_,t_,t_,t_,t_,t_,t_,t_,t_,t_,t_,f_,f_,f_,f_,f_,f_,f_,f_,f_,f_,f_,f_,f_,f_,f_,f_,f_,f_,f_,f_,f_,f_,f_,f_,f_,f_,f_,f_,f_,f_,f_,f_,f_,f_,f_,f_,f_,f_,f_,f_,f_,f_,f_,f_,f_,f_,f_,f_,f_] rfl rfl (by kernel_rfl) (fun _ _ _ h => h) (Or.inl ⟨by rfl,?_⟩) ?_ ?_
      rotate_left; intro w'; go_simp; with_reducible rfl; rotate_left; simp only [Act.put,sA_,sB_,sC_,i64_w,i32_w]; rfl
      refine pu_ (i:=18) (N:=some 23) (v:=undef) (a':=?_) rfl rfl (by kernel_rfl) (fun _ _ _ h => h) (Or.inr ⟨by rfl,rfl⟩) ?_ ?_
      rotate_left; simp only [Act.put,sA_,sB_,sC_,i64_w,i32_w]; rfl
      refine pu_ (i:=19) (N:=some 24) (v:=undef) (a':=?_) rfl rfl (by kernel_rfl) (fun _ _ _ h => h) (Or.inr ⟨by rfl,rfl⟩) ?_ ?_
      rotate_left; simp only [Act.put,sA_,sB_,sC_,i64_w,i32_w]; rfl
      refine pu_ (i:=20) (N:=some 25) (v:=undef) (a':=?_) rfl rfl (by kernel_rfl) (fun _ _ _ h => h) (Or.inr ⟨by rfl,rfl⟩) ?_ ?_
      rotate_left; simp only [Act.put,sA_,sB_,sC_,i64_w,i32_w]; rfl
      refine pu_ (i:=21) (N:=some 26) (v:=?_) (a':=?_) rfl rfl (by kernel_rfl) (fun _ _ _ h => h) (Or.inl ⟨by rfl,?_⟩) ?_ ?_
      rotate_left; intro w'; go_simp; with_reducible rfl; rotate_left; simp only [Act.put,sA_,sB_,sC_,i64_w,i32_w]; rfl
      refine pu_ (i:=22) (N:=some 27) (v:=?_) (a':=?_) rfl rfl (by kernel_rfl) (fun _ _ _ h => h) (Or.inl ⟨by rfl,?_⟩) ?_ ?_
      rotate_left; intro w'; go_simp; with_reducible rfl; rotate_left; simp only [Act.put,sA_,sB_,sC_,i64_w,i32_w]; rfl
      refine pu_ (i:=23) (N:=some 28) (v:=undef) (a':=?_) rfl rfl (by kernel_rfl) (fun _ _ _ h => h) (Or.inr ⟨by rfl,rfl⟩) ?_ ?_
      rotate_left; simp only [Act.put,sA_,sB_,sC_,i64_w,i32_w]; rfl
      refine pu_ (i:=24) (N:=some 29) (v:=undef) (a':=?_) rfl rfl (by kernel_rfl) (fun _ _ _ h => h) (Or.inr ⟨by rfl,rfl⟩) ?_ ?_
      rotate_left; simp only [Act.put,sA_,sB_,sC_,i64_w,i32_w]; rfl
      refine pu_ (i:=25) (N:=some 30) (v:=undef) (a':=?_) rfl rfl (by kernel_rfl) (fun _ _ _ h => h) (Or.inr ⟨by rfl,rfl⟩) ?_ ?_
      rotate_left; simp only [Act.put,sA_,sB_,sC_,i64_w,i32_w]; rfl
      refine pu_ (i:=26) (N:=some 31) (v:=?_) (a':=?_) rfl rfl (by kernel_rfl) (fun _ _ _ h => h) (Or.inl ⟨by rfl,?_⟩) ?_ ?_
      rotate_left; intro w'; go_simp; with_reducible rfl; rotate_left; simp only [Act.put,sA_,sB_,sC_,i64_w,i32_w]; rfl
      refine pu_ (i:=27) (N:=some 32) (v:=?_) (a':=?_) rfl rfl (by kernel_rfl) (fun _ _ _ h => h) (Or.inl ⟨by rfl,?_⟩) ?_ ?_
      rotate_left; intro w'; go_simp; with_reducible rfl; rotate_left; simp only [Act.put,sA_,sB_,sC_,i64_w,i32_w]; rfl
      refine pu_ (i:=28) (N:=some 33) (v:=undef) (a':=?_) rfl rfl (by kernel_rfl) (fun _ _ _ h => h) (Or.inr ⟨by rfl,rfl⟩) ?_ ?_
      rotate_left; simp only [Act.put,sA_,sB_,sC_,i64_w,i32_w]; rfl
      as_aux_lemma =>
       refine pure_ (i:=29) (N:=some 34) (v:=undef) (a':=?_) #[t_,t_,t_,t_,t_,t_,t_,t_,t_,t_,t_,t_,t_,t_,t_,t_,t_,t_,t_,t_,t_,t_,t_,t_,t_,t_,t_,t_,t_,t_,f_,f_,f_,f_,f_,f_,f_,f_,f_,f_,f_,f_,f_,f_,f_,f_,f_,f_,f_,f_,f_,f_,f_,f_,f_,f_,f_,f_,f_,f_,f_,f_,f_,f_,f_,f_,f_] rfl rfl (by kernel_rfl) (fun _ _ _ h => h) (Or.inr ⟨by rfl,rfl⟩) ?_ ?_
       rotate_left; simp only [Act.put,sA_,sB_,sC_,i64_w,i32_w]; rfl
       refine pu_ (i:=30) (N:=some 35) (v:=undef) (a':=?_) rfl rfl (by kernel_rfl) (fun _ _ _ h => h) (Or.inr ⟨by rfl,rfl⟩) ?_ ?_
       rotate_left; simp only [Act.put,sA_,sB_,sC_,i64_w,i32_w]; rfl
       refine pu_ (i:=31) (N:=some 36) (v:=?_) (a':=?_) rfl rfl (by kernel_rfl) (fun _ _ _ h => h) (Or.inl ⟨by rfl,?_⟩) ?_ ?_
       rotate_left; intro w'; go_simp; with_reducible rfl; rotate_left; simp only [Act.put,sA_,sB_,sC_,i64_w,i32_w]; rfl
       refine pu_ (i:=32) (N:=some 37) (v:=?_) (a':=?_) rfl rfl (by kernel_rfl) (fun _ _ _ h => h) (Or.inl ⟨by rfl,?_⟩) ?_ ?_
       rotate_left; intro w'; go_simp; with_reducible rfl; rotate_left; simp only [Act.put,sA_,sB_,sC_,i64_w,i32_w]; rfl
       refine pu_ (i:=33) (N:=some 38) (v:=undef) (a':=?_) rfl rfl (by kernel_rfl) (fun _ _ _ h => h) (Or.inr ⟨by rfl,rfl⟩) ?_ ?_
       rotate_left; simp only [Act.put,sA_,sB_,sC_,i64_w,i32_w]; rfl
       refine pu_ (i:=34) (N:=some 39) (v:=undef) (a':=?_) rfl rfl (by kernel_rfl) (fun _ _ _ h => h) (Or.inr ⟨by rfl,rfl⟩) ?_ ?_
       rotate_left; simp only [Act.put,sA_,sB_,sC_,i64_w,i32_w]; rfl
       refine pu_ (i:=35) (N:=some 40) (v:=undef) (a':=?_) rfl rfl (by kernel_rfl) (fun _ _ _ h => h) (Or.inr ⟨by rfl,rfl⟩) ?_ ?_
       rotate_left; simp only [Act.put,sA_,sB_,sC_,i64_w,i32_w]; rfl
       refine pu_ (i:=36) (N:=some 41) (v:=undef) (a':=?_) rfl rfl (by kernel_rfl) (fun _ _ _ h => h) (Or.inr ⟨by rfl,rfl⟩) ?_ ?_
       rotate_left; simp only [Act.put,sA_,sB_,sC_,i64_w,i32_w]; rfl
       refine pu_ (i:=37) (N:=some 42) (v:=undef) (a':=?_) rfl rfl (by kernel_rfl) (fun _ _ _ h => h) (Or.inr ⟨by rfl,rfl⟩) ?_ ?_
       rotate_left; simp only [Act.put,sA_,sB_,sC_,i64_w,i32_w]; rfl
       refine pu_ (i:=38) (N:=some 43) (v:=undef) (a':=?_) rfl rfl (by kernel_rfl) (fun _ _ _ h => h) (Or.inr ⟨by rfl,rfl⟩) ?_ ?_
       rotate_left; simp only [Act.put,sA_,sB_,sC_,i64_w,i32_w]; rfl
       refine pu_ (i:=39) (N:=some 44) (v:=undef) (a':=?_) rfl rfl (by kernel_rfl) (fun _ _ _ h => h) (Or.inr ⟨by rfl,rfl⟩) ?_ ?_
       rotate_left; simp only [Act.put,sA_,sB_,sC_,i64_w,i32_w]; rfl
       refine pu_ (i:=40) (N:=some 45) (v:=undef) (a':=?_) rfl rfl (by kernel_rfl) (fun _ _ _ h => h) (Or.inr ⟨by rfl,rfl⟩) ?_ ?_
       rotate_left; simp only [Act.put,sA_,sB_,sC_,i64_w,i32_w]; rfl
       as_aux_lemma =>
        refine pure_ (i:=41) (N:=some 46) (v:=?_) (a':=?_) #[t_,t_,t_,t_,t_,t_,t_,t_,t_,t_,t_,t_,t_,t_,t_,t_,t_,t_,t_,t_,t_,t_,t_,t_,t_,t_,t_,t_,t_,t_,t_,t_,t_,t_,t_,t_,t_,t_,t_,t_,t_,t_,f_,f_,f_,f_,f_,f_,f_,f_,f_,f_,f_,f_,f_,f_,f_,f_,f_,f_,f_,f_,f_,f_,f_,f_,f_] rfl rfl (by kernel_rfl) (fun _ _ _ h => h) (Or.inl ⟨by rfl,?_⟩) ?_ ?_
        rotate_left; intro w'; go_simp; with_reducible rfl; rotate_left; simp only [Act.put,sA_,sB_,sC_,i64_w,i32_w]; rfl
        refine pu_ (i:=42) (N:=some 47) (v:=?_) (a':=?_) rfl rfl (by kernel_rfl) (fun _ _ _ h => h) (Or.inl ⟨by rfl,?_⟩) ?_ ?_
        rotate_left; intro w'; go_simp; with_reducible rfl; rotate_left; simp only [Act.put,sA_,sB_,sC_,i64_w,i32_w]; rfl
        refine pu_ (i:=43) (N:=some 48) (v:=undef) (a':=?_) rfl rfl (by kernel_rfl) (fun _ _ _ h => h) (Or.inr ⟨by rfl,rfl⟩) ?_ ?_
        rotate_left; simp only [Act.put,sA_,sB_,sC_,i64_w,i32_w]; rfl
        refine pu_ (i:=44) (N:=some 49) (v:=undef) (a':=?_) rfl rfl (by kernel_rfl) (fun _ _ _ h => h) (Or.inr ⟨by rfl,rfl⟩) ?_ ?_
        rotate_left; simp only [Act.put,sA_,sB_,sC_,i64_w,i32_w]; rfl
        refine pu_ (i:=45) (N:=some 50) (v:=undef) (a':=?_) rfl rfl (by kernel_rfl) (fun _ _ _ h => h) (Or.inr ⟨by rfl,rfl⟩) ?_ ?_
        rotate_left; simp only [Act.put,sA_,sB_,sC_,i64_w,i32_w]; rfl
        refine pu_ (i:=46) (N:=some 51) (v:=?_) (a':=?_) rfl rfl (by kernel_rfl) (fun _ _ _ h => h) (Or.inl ⟨by rfl,?_⟩) ?_ ?_
        rotate_left; intro w'; go_simp; with_reducible rfl; rotate_left; simp only [Act.put,sA_,sB_,sC_,i64_w,i32_w]; rfl
        refine pu_ (i:=47) (N:=some 52) (v:=?_) (a':=?_) rfl rfl (by kernel_rfl) (fun _ _ _ h => h) (Or.inl ⟨by rfl,?_⟩) ?_ ?_
        rotate_left; intro w'; go_simp; with_reducible rfl; rotate_left; simp only [Act.put,sA_,sB_,sC_,i64_w,i32_w]; rfl
        refine pu_ (i:=48) (N:=some 53) (v:=undef) (a':=?_) rfl rfl (by kernel_rfl) (fun _ _ _ h => h) (Or.inr ⟨by rfl,rfl⟩) ?_ ?_
        rotate_left; simp only [Act.put,sA_,sB_,sC_,i64_w,i32_w]; rfl
        refine pu_ (i:=49) (N:=some 54) (v:=undef) (a':=?_) rfl rfl (by kernel_rfl) (fun _ _ _ h => h) (Or.inr ⟨by rfl,rfl⟩) ?_ ?_
        rotate_left; simp only [Act.put,sA_,sB_,sC_,i64_w,i32_w]; rfl
        refine pu_ (i:=50) (N:=some 55) (v:=undef) (a':=?_) rfl rfl (by kernel_rfl) (fun _ _ _ h => h) (Or.inr ⟨by rfl,rfl⟩) ?_ ?_
        rotate_left; simp only [Act.put,sA_,sB_,sC_,i64_w,i32_w]; rfl
        refine pu_ (i:=51) (N:=some 56) (v:=undef) (a':=?_) rfl rfl (by kernel_rfl) (fun _ _ _ h => h) (Or.inr ⟨by rfl,rfl⟩) ?_ ?_
        rotate_left; simp only [Act.put,sA_,sB_,sC_,i64_w,i32_w]; rfl
        refine pu_ (i:=52) (N:=some 57) (v:=undef) (a':=?_) rfl rfl (by kernel_rfl) (fun _ _ _ h => h) (Or.inr ⟨by rfl,rfl⟩) ?_ ?_
        rotate_left; simp only [Act.put,sA_,sB_,sC_,i64_w,i32_w]; rfl
        as_aux_lemma =>
         refine pure_ (i:=53) (N:=some 58) (v:=undef) (a':=?_) #[t_,t_,t_,t_,t_,t_,t_,t_,t_,t_,t_,t_,t_,t_,t_,t_,t_,t_,t_,t_,t_,t_,t_,t_,t_,t_,t_,t_,t_,t_,t_,t_,t_,t_,t_,t_,t_,t_,t_,t_,t_,t_,t_,t_,t_,t_,t_,t_,t_,t_,t_,t_,t_,t_,f_,f_,f_,f_,f_,f_,f_,f_,f_,f_,f_,f_,f_] rfl rfl (by kernel_rfl) (fun _ _ _ h => h) (Or.inr ⟨by rfl,rfl⟩) ?_ ?_
         rotate_left; simp only [Act.put,sA_,sB_,sC_,i64_w,i32_w]; rfl
         refine pu_ (i:=54) (N:=some 59) (v:=undef) (a':=?_) rfl rfl (by kernel_rfl) (fun _ _ _ h => h) (Or.inr ⟨by rfl,rfl⟩) ?_ ?_
         rotate_left; simp only [Act.put,sA_,sB_,sC_,i64_w,i32_w]; rfl
         refine pu_ (i:=55) (N:=some 60) (v:=undef) (a':=?_) rfl rfl (by kernel_rfl) (fun _ _ _ h => h) (Or.inr ⟨by rfl,rfl⟩) ?_ ?_
         rotate_left; simp only [Act.put,sA_,sB_,sC_,i64_w,i32_w]; rfl
         refine pu_ (i:=56) (N:=some 61) (v:=?_) (a':=?_) rfl rfl (by kernel_rfl) (fun _ _ _ h => h) (Or.inl ⟨by rfl,?_⟩) ?_ ?_
         rotate_left; intro w'; go_simp; with_reducible rfl; rotate_left; simp only [Act.put,sA_,sB_,sC_,i64_w,i32_w]; rfl
         refine pu_ (i:=57) (N:=some 62) (v:=?_) (a':=?_) rfl rfl (by kernel_rfl) (fun _ _ _ h => h) (Or.inl ⟨by rfl,?_⟩) ?_ ?_
         rotate_left; intro w'; go_simp; with_reducible rfl; rotate_left; simp only [Act.put,sA_,sB_,sC_,i64_w,i32_w]; rfl
         refine pu_ (i:=58) (N:=some 63) (v:=undef) (a':=?_) rfl rfl (by kernel_rfl) (fun _ _ _ h => h) (Or.inr ⟨by rfl,rfl⟩) ?_ ?_
         rotate_left; simp only [Act.put,sA_,sB_,sC_,i64_w,i32_w]; rfl
         refine pu_ (i:=59) (N:=some 64) (v:=undef) (a':=?_) rfl rfl (by kernel_rfl) (fun _ _ _ h => h) (Or.inr ⟨by rfl,rfl⟩) ?_ ?_
         rotate_left; simp only [Act.put,sA_,sB_,sC_,i64_w,i32_w]; rfl
         refine pu_ (i:=60) (N:=some 65) (v:=undef) (a':=?_) rfl rfl (by kernel_rfl) (fun _ _ _ h => h) (Or.inr ⟨by rfl,rfl⟩) ?_ ?_
         rotate_left; simp only [Act.put,sA_,sB_,sC_,i64_w,i32_w]; rfl
         refine pu_ (i:=61) (N:=some 66) (v:=?_) (a':=?_) rfl rfl (by kernel_rfl) (fun _ _ _ h => h) (Or.inl ⟨by rfl,?_⟩) ?_ ?_
         rotate_left; intro w'; go_simp; with_reducible rfl; rotate_left; simp only [Act.put,sA_,sB_,sC_,i64_w,i32_w]; rfl
         refine pu_ (i:=62) (N:=some 67) (v:=?_) (a':=?_) rfl rfl (by kernel_rfl) (fun _ _ _ h => h) (Or.inl ⟨by rfl,?_⟩) ?_ ?_
         rotate_left; intro w'; go_simp; with_reducible rfl; rotate_left; simp only [Act.put,sA_,sB_,sC_,i64_w,i32_w]; rfl
         refine pu_ (i:=63) (N:=some 68) (v:=undef) (a':=?_) rfl rfl (by kernel_rfl) (fun _ _ _ h => h) (Or.inr ⟨by rfl,rfl⟩) ?_ ?_
         rotate_left; simp only [Act.put,sA_,sB_,sC_,i64_w,i32_w]; rfl
         refine pu_ (i:=64) (N:=some 69) (v:=undef) (a':=?_) rfl rfl (by kernel_rfl) (fun _ _ _ h => h) (Or.inr ⟨by rfl,rfl⟩) ?_ ?_
         rotate_left; simp only [Act.put,sA_,sB_,sC_,i64_w,i32_w]; rfl
         as_aux_lemma =>
          refine pure_ (i:=65) (N:=some 70) (v:=undef) (a':=?_) #[t_,t_,t_,t_,t_,t_,t_,t_,t_,t_,t_,t_,t_,t_,t_,t_,t_,t_,t_,t_,t_,t_,t_,t_,t_,t_,t_,t_,t_,t_,t_,t_,t_,t_,t_,t_,t_,t_,t_,t_,t_,t_,t_,t_,t_,t_,t_,t_,t_,t_,t_,t_,t_,t_,t_,t_,t_,t_,t_,t_,t_,t_,t_,t_,t_,t_,f_] rfl rfl (by kernel_rfl) (fun _ _ _ h => h) (Or.inr ⟨by rfl,rfl⟩) ?_ ?_
          rotate_left; simp only [Act.put,sA_,sB_,sC_,i64_w,i32_w]; rfl
          refine pu_ (i:=66) (N:=some 71) (v:=?_) (a':=?_) rfl rfl (by kernel_rfl) (fun _ _ _ h => h) (Or.inl ⟨by rfl,?_⟩) ?_ ?_
          rotate_left; intro w'; go_simp; with_reducible rfl; rotate_left; simp only [Act.put,sA_,sB_,sC_,i64_w,i32_w]; rfl
          refine done_ (by kernel_rfl) ?_
          go_wp2_with fail
          go_ret
          exact ⟨rfl,((Fr.refl hok).al _).dr⟩
  refine pu_ (i:=6) (N:=some 11) (v:=?_) (a':=?_) rfl rfl (by kernel_rfl) (fun _ _ _ h => h) (Or.inl ⟨by rfl,?_⟩) ?_ ?_
  rotate_left; intro w'; go_simp; with_reducible rfl; rotate_left; simp only [Act.put,sA_,sB_,sC_,i64_w,i32_w]; rfl
  refine pu_ (i:=7) (N:=some 12) (v:=?_) (a':=?_) rfl rfl (by kernel_rfl) (fun _ _ _ h => h) (Or.inl ⟨by rfl,?_⟩) ?_ ?_
  rotate_left; intro w'; go_simp; with_reducible rfl; rotate_left; simp only [Act.put,sA_,sB_,sC_,i64_w,i32_w]; rfl
  refine pu_ (i:=8) (N:=some 13) (v:=?_) (a':=?_) rfl rfl (by kernel_rfl) (fun _ _ _ h => h) (Or.inl ⟨by rfl,?_⟩) ?_ ?_
  rotate_left; intro w'; go_simp; with_reducible rfl; rotate_left; simp only [Act.put,sA_,sB_,sC_,i64_w,i32_w]; rfl
  refine pu_ (i:=9) (N:=some 14) (v:=?_) (a':=?_) rfl rfl (by kernel_rfl) (fun _ _ _ h => h) (Or.inl ⟨by rfl,?_⟩) ?_ ?_
  rotate_left; intro w'; go_simp; with_reducible rfl; rotate_left; simp only [Act.put,sA_,sB_,sC_,i64_w,i32_w]; rfl
  as_aux_lemma =>
   refine pure_ (i:=11) (N:=some 16) (v:=?_) (a':=?_) #[t_,t_,t_,t_,t_,t_,t_,t_,t_,t_,f_,t_,f_,f_,f_,f_,f_,f_,f_,f_,f_,f_,f_,f_,f_,f_,f_,f_,f_,f_,f_,f_,f_,f_,f_,f_,f_,f_,f_,f_,f_,f_,f_,f_,f_,f_,f_,f_,f_,f_,f_,f_,f_,f_,f_,f_,f_,f_,f_,f_,f_,f_,f_,f_,f_,f_,f_] rfl rfl (by kernel_rfl) (fun _ _ _ h => h) (Or.inl ⟨by rfl,?_⟩) ?_ ?_
   rotate_left; intro w'; go_simp; with_reducible rfl; rotate_left; simp only [Act.put,sA_,sB_,sC_,i64_w,i32_w]; rfl
   refine pu_ (i:=12) (N:=some 17) (v:=?_) (a':=?_) rfl rfl (by kernel_rfl) (fun _ _ _ h => h) (Or.inl ⟨by rfl,?_⟩) ?_ ?_
   rotate_left; intro w'; go_simp; with_reducible rfl; rotate_left; simp only [Act.put,sA_,sB_,sC_,i64_w,i32_w]; rfl
   refine pu_ (i:=13) (N:=some 18) (v:=?_) (a':=?_) rfl rfl (by kernel_rfl) (fun _ _ _ h => h) (Or.inl ⟨by rfl,?_⟩) ?_ ?_
   rotate_left; intro w'; go_simp; with_reducible rfl; rotate_left; simp only [Act.put,sA_,sB_,sC_,i64_w,i32_w]; rfl
   refine tk_ (i:=10) (N:=some 15) (v:=?_) (a':=?_) rfl rfl (by kernel_rfl) (fun _ _ _ h => h) (Or.inl ⟨by rfl,?_⟩) hHeld ?_ ?_
   rotate_left; rintro w' ⟨s0,s1,s2,s3,s4,s5,s6,s7⟩; go_simp; with_reducible rfl; rotate_left; simp only [Act.put,sA_,sB_,sC_,i64_w,i32_w]; rfl
   refine tk_ (i:=14) (N:=some 19) (v:=?_) (a':=?_) rfl rfl (by kernel_rfl) (fun _ _ _ h => h) (Or.inl ⟨by rfl,?_⟩) hHeld ?_ ?_
   rotate_left; rintro w' ⟨s0,s1,s2,s3,s4,s5,s6,s7⟩; go_simp; with_reducible rfl; rotate_left; simp only [Act.put,sA_,sB_,sC_,i64_w,i32_w]; rfl
   rcases Bool.eq_false_or_eq_true ((md != P.no)) with g15 | g15
   · as_aux_lemma =>
      refine pu_ (i:=15) (N:=some 20) (v:=?_) (a':=?_) rfl rfl (by kernel_rfl) (fun _ _ _ h => h) (Or.inl ⟨by rfl,?_⟩) ?_ ?_
      rotate_left; intro w'; go_simp; with_reducible rfl; rotate_left; simp only [Act.put,sA_,sB_,sC_,i64_w,i32_w]; rfl
      refine pu_ (i:=16) (N:=some 21) (v:=?_) (a':=?_) rfl rfl (by kernel_rfl) (fun _ _ _ h => h) (Or.inl ⟨by rfl,?_⟩) ?_ ?_
      rotate_left; intro w'; go_simp; with_reducible rfl; rotate_left; simp only [Act.put,sA_,sB_,sC_,i64_w,i32_w]; rfl
      refine pu_ (i:=17) (N:=some 22) (v:=?_) (a':=?_) rfl rfl (by kernel_rfl) (fun _ _ _ h => h) (Or.inl ⟨by rfl,?_⟩) ?_ ?_
      rotate_left; intro w'; go_simp; with_reducible rfl; rotate_left; simp only [Act.put,sA_,sB_,sC_,i64_w,i32_w]; rfl
      refine pu_ (i:=18) (N:=some 23) (v:=undef) (a':=?_) rfl rfl (by kernel_rfl) (fun _ _ _ h => h) (Or.inr ⟨by rfl,rfl⟩) ?_ ?_
      rotate_left; simp only [Act.put,sA_,sB_,sC_,i64_w,i32_w]; rfl
      refine pu_ (i:=19) (N:=some 24) (v:=undef) (a':=?_) rfl rfl (by kernel_rfl) (fun _ _ _ h => h) (Or.inr ⟨by rfl,rfl⟩) ?_ ?_
      rotate_left; simp only [Act.put,sA_,sB_,sC_,i64_w,i32_w]; rfl
      refine pu_ (i:=20) (N:=some 25) (v:=undef) (a':=?_) rfl rfl (by kernel_rfl) (fun _ _ _ h => h) (Or.inr ⟨by rfl,rfl⟩) ?_ ?_
      rotate_left; simp only [Act.put,sA_,sB_,sC_,i64_w,i32_w]; rfl
      refine pu_ (i:=21) (N:=some 26) (v:=?_) (a':=?_) rfl rfl (by kernel_rfl) (fun _ _ _ h => h) (Or.inl ⟨by rfl,?_⟩) ?_ ?_
      rotate_left; intro w'; go_simp; with_reducible rfl; rotate_left; simp only [Act.put,sA_,sB_,sC_,i64_w,i32_w]; rfl
      refine pu_ (i:=22) (N:=some 27) (v:=?_) (a':=?_) rfl rfl (by kernel_rfl) (fun _ _ _ h => h) (Or.inl ⟨by rfl,?_⟩) ?_ ?_
      rotate_left; intro w'; go_simp; with_reducible rfl; rotate_left; simp only [Act.put,sA_,sB_,sC_,i64_w,i32_w]; rfl
      refine pu_ (i:=23) (N:=some 28) (v:=undef) (a':=?_) rfl rfl (by kernel_rfl) (fun _ _ _ h => h) (Or.inr ⟨by rfl,rfl⟩) ?_ ?_
      rotate_left; simp only [Act.put,sA_,sB_,sC_,i64_w,i32_w]; rfl
      refine pu_ (i:=24) (N:=some 29) (v:=undef) (a':=?_) rfl rfl (by kernel_rfl) (fun _ _ _ h => h) (Or.inr ⟨by rfl,rfl⟩) ?_ ?_
      rotate_left; simp only [Act.put,sA_,sB_,sC_,i64_w,i32_w]; rfl
      refine pu_ (i:=25) (N:=some 30) (v:=undef) (a':=?_) rfl rfl (by kernel_rfl) (fun _ _ _ h => h) (Or.inr ⟨by rfl,rfl⟩) ?_ ?_
      rotate_left; simp only [Act.put,sA_,sB_,sC_,i64_w,i32_w]; rfl
      as_aux_lemma =>
       refine pure_ (i:=26) (N:=some 31) (v:=?_) (a':=?_) #[t_,t_,t_,t_,t_,t_,t_,t_,t_,t_,t_,t_,t_,t_,t_,t_,t_,t_,t_,t_,t_,t_,t_,t_,t_,t_,t_,f_,f_,f_,f_,f_,f_,f_,f_,f_,f_,f_,f_,f_,f_,f_,f_,f_,f_,f_,f_,f_,f_,f_,f_,f_,f_,f_,f_,f_,f_,f_,f_,f_,f_,f_,f_,f_,f_,f_,f_] rfl rfl (by kernel_rfl) (fun _ _ _ h => h) (Or.inl ⟨by rfl,?_⟩) ?_ ?_
       rotate_left; intro w'; go_simp; with_reducible rfl; rotate_left; simp only [Act.put,sA_,sB_,sC_,i64_w,i32_w]; rfl
       refine pu_ (i:=27) (N:=some 32) (v:=?_) (a':=?_) rfl rfl (by kernel_rfl) (fun _ _ _ h => h) (Or.inl ⟨by rfl,?_⟩) ?_ ?_
       rotate_left; intro w'; go_simp; with_reducible rfl; rotate_left; simp only [Act.put,sA_,sB_,sC_,i64_w,i32_w]; rfl
       refine pu_ (i:=28) (N:=some 33) (v:=undef) (a':=?_) rfl rfl (by kernel_rfl) (fun _ _ _ h => h) (Or.inr ⟨by rfl,rfl⟩) ?_ ?_
       rotate_left; simp only [Act.put,sA_,sB_,sC_,i64_w,i32_w]; rfl
       refine pu_ (i:=29) (N:=some 34) (v:=undef) (a':=?_) rfl rfl (by kernel_rfl) (fun _ _ _ h => h) (Or.inr ⟨by rfl,rfl⟩) ?_ ?_
       rotate_left; simp only [Act.put,sA_,sB_,sC_,i64_w,i32_w]; rfl
       refine pu_ (i:=30) (N:=some 35) (v:=undef) (a':=?_) rfl rfl (by kernel_rfl) (fun _ _ _ h => h) (Or.inr ⟨by rfl,rfl⟩) ?_ ?_
       rotate_left; simp only [Act.put,sA_,sB_,sC_,i64_w,i32_w]; rfl
       refine pu_ (i:=31) (N:=some 36) (v:=?_) (a':=?_) rfl rfl (by kernel_rfl) (fun _ _ _ h => h) (Or.inl ⟨by rfl,?_⟩) ?_ ?_
       rotate_left; intro w'; go_simp; with_reducible rfl; rotate_left; simp only [Act.put,sA_,sB_,sC_,i64_w,i32_w]; rfl
       refine pu_ (i:=32) (N:=some 37) (v:=?_) (a':=?_) rfl rfl (by kernel_rfl) (fun _ _ _ h => h) (Or.inl ⟨by rfl,?_⟩) ?_ ?_
       rotate_left; intro w'; go_simp; with_reducible rfl; rotate_left; simp only [Act.put,sA_,sB_,sC_,i64_w,i32_w]; rfl
       refine pu_ (i:=33) (N:=some 38) (v:=undef) (a':=?_) rfl rfl (by kernel_rfl) (fun _ _ _ h => h) (Or.inr ⟨by rfl,rfl⟩) ?_ ?_
       rotate_left; simp only [Act.put,sA_,sB_,sC_,i64_w,i32_w]; rfl
       refine pu_ (i:=34) (N:=some 39) (v:=undef) (a':=?_) rfl rfl (by kernel_rfl) (fun _ _ _ h => h) (Or.inr ⟨by rfl,rfl⟩) ?_ ?_
       rotate_left; simp only [Act.put,sA_,sB_,sC_,i64_w,i32_w]; rfl
       refine pu_ (i:=35) (N:=some 40) (v:=undef) (a':=?_) rfl rfl (by kernel_rfl) (fun _ _ _ h => h) (Or.inr ⟨by rfl,rfl⟩) ?_ ?_
       rotate_left; simp only [Act.put,sA_,sB_,sC_,i64_w,i32_w]; rfl
       refine pu_ (i:=36) (N:=some 41) (v:=undef) (a':=?_) rfl rfl (by kernel_rfl) (fun _ _ _ h => h) (Or.inr ⟨by rfl,rfl⟩) ?_ ?_
       rotate_left; simp only [Act.put,sA_,sB_,sC_,i64_w,i32_w]; rfl
       refine pu_ (i:=37) (N:=some 42) (v:=undef) (a':=?_) rfl rfl (by kernel_rfl) (fun _ _ _ h => h) (Or.inr ⟨by rfl,rfl⟩) ?_ ?_
       rotate_left; simp only [Act.put,sA_,sB_,sC_,i64_w,i32_w]; rfl
       as_aux_lemma =>
        refine pure_ (i:=38) (N:=some 43) (v:=undef) (a':=?_) #[t_,t_,t_,t_,t_,t_,t_,t_,t_,t_,t_,t_,t_,t_,t_,t_,t_,t_,t_,t_,t_,t_,t_,t_,t_,t_,t_,t_,t_,t_,t_,t_,t_,t_,t_,t_,t_,t_,t_,f_,f_,f_,f_,f_,f_,f_,f_,f_,f_,f_,f_,f_,f_,f_,f_,f_,f_,f_,f_,f_,f_,f_,f_,f_,f_,f_,f_] rfl rfl (by kernel_rfl) (fun _ _ _ h => h) (Or.inr ⟨by rfl,rfl⟩) ?_ ?_
        rotate_left; simp only [Act.put,sA_,sB_,sC_,i64_w,i32_w]; rfl
        refine pu_ (i:=39) (N:=some 44) (v:=undef) (a':=?_) rfl rfl (by kernel_rfl) (fun _ _ _ h => h) (Or.inr ⟨by rfl,rfl⟩) ?_ ?_
        rotate_left; simp only [Act.put,sA_,sB_,sC_,i64_w,i32_w]; rfl
        refine pu_ (i:=40) (N:=some 45) (v:=undef) (a':=?_) rfl rfl (by kernel_rfl) (fun _ _ _ h => h) (Or.inr ⟨by rfl,rfl⟩) ?_ ?_
        rotate_left; simp only [Act.put,sA_,sB_,sC_,i64_w,i32_w]; rfl
        refine pu_ (i:=41) (N:=some 46) (v:=?_) (a':=?_) rfl rfl (by kernel_rfl) (fun _ _ _ h => h) (Or.inl ⟨by rfl,?_⟩) ?_ ?_
        rotate_left; intro w'; go_simp; with_reducible rfl; rotate_left; simp only [Act.put,sA_,sB_,sC_,i64_w,i32_w]; rfl
        refine pu_ (i:=42) (N:=some 47) (v:=?_) (a':=?_) rfl rfl (by kernel_rfl) (fun _ _ _ h => h) (Or.inl ⟨by rfl,?_⟩) ?_ ?_
        rotate_left; intro w'; go_simp; with_reducible rfl; rotate_left; simp only [Act.put,sA_,sB_,sC_,i64_w,i32_w]; rfl
        refine pu_ (i:=43) (N:=some 48) (v:=undef) (a':=?_) rfl rfl (by kernel_rfl) (fun _ _ _ h => h) (Or.inr ⟨by rfl,rfl⟩) ?_ ?_
        rotate_left; simp only [Act.put,sA_,sB_,sC_,i64_w,i32_w]; rfl
        refine pu_ (i:=44) (N:=some 49) (v:=undef) (a':=?_) rfl rfl (by kernel_rfl) (fun _ _ _ h => h) (Or.inr ⟨by rfl,rfl⟩) ?_ ?_
        rotate_left; simp only [Act.put,sA_,sB_,sC_,i64_w,i32_w]; rfl
        refine pu_ (i:=45) (N:=some 50) (v:=undef) (a':=?_) rfl rfl (by kernel_rfl) (fun _ _ _ h => h) (Or.inr ⟨by rfl,rfl⟩) ?_ ?_
        rotate_left; simp only [Act.put,sA_,sB_,sC_,i64_w,i32_w]; rfl
        refine pu_ (i:=46) (N:=some 51) (v:=?_) (a':=?_) rfl rfl (by kernel_rfl) (fun _ _ _ h => h) (Or.inl ⟨by rfl,?_⟩) ?_ ?_
        rotate_left; intro w'; go_simp; with_reducible rfl; rotate_left; simp only [Act.put,sA_,sB_,sC_,i64_w,i32_w]; rfl
        refine pu_ (i:=47) (N:=some 52) (v:=?_) (a':=?_) rfl rfl (by kernel_rfl) (fun _ _ _ h => h) (Or.inl ⟨by rfl,?_⟩) ?_ ?_
        rotate_left; intro w'; go_simp; with_reducible rfl; rotate_left; simp only [Act.put,sA_,sB_,sC_,i64_w,i32_w]; rfl
        refine pu_ (i:=48) (N:=some 53) (v:=undef) (a':=?_) rfl rfl (by kernel_rfl) (fun _ _ _ h => h) (Or.inr ⟨by rfl,rfl⟩) ?_ ?_
        rotate_left; simp only [Act.put,sA_,sB_,sC_,i64_w,i32_w]; rfl
        refine pu_ (i:=49) (N:=some 54) (v:=undef) (a':=?_) rfl rfl (by kernel_rfl) (fun _ _ _ h => h) (Or.inr ⟨by rfl,rfl⟩) ?_ ?_
        rotate_left; simp only [Act.put,sA_,sB_,sC_,i64_w,i32_w]; rfl
        as_aux_lemma =>
         refine pure_ (i:=50) (N:=some 55) (v:=undef) (a':=?_) #[t_,t_,t_,t_,t_,t_,t_,t_,t_,t_,t_,t_,t_,t_,t_,t_,t_,t_,t_,t_,t_,t_,t_,t_,t_,t_,t_,t_,t_,t_,t_,t_,t_,t_,t_,t_,t_,t_,t_,t_,t_,t_,t_,t_,t_,t_,t_,t_,t_,t_,t_,f_,f_,f_,f_,f_,f_,f_,f_,f_,f_,f_,f_,f_,f_,f_,f_] rfl rfl (by kernel_rfl) (fun _ _ _ h => h) (Or.inr ⟨by rfl,rfl⟩) ?_ ?_
         rotate_left; simp only [Act.put,sA_,sB_,sC_,i64_w,i32_w]; rfl
         refine pu_ (i:=51) (N:=some 56) (v:=undef) (a':=?_) rfl rfl (by kernel_rfl) (fun _ _ _ h => h) (Or.inr ⟨by rfl,rfl⟩) ?_ ?_
         rotate_left; simp only [Act.put,sA_,sB_,sC_,i64_w,i32_w]; rfl
         refine pu_ (i:=52) (N:=some 57) (v:=undef) (a':=?_) rfl rfl (by kernel_rfl) (fun _ _ _ h => h) (Or.inr ⟨by rfl,rfl⟩) ?_ ?_
         rotate_left; simp only [Act.put,sA_,sB_,sC_,i64_w,i32_w]; rfl
         refine pu_ (i:=53) (N:=some 58) (v:=undef) (a':=?_) rfl rfl (by kernel_rfl) (fun _ _ _ h => h) (Or.inr ⟨by rfl,rfl⟩) ?_ ?_
         rotate_left; simp only [Act.put,sA_,sB_,sC_,i64_w,i32_w]; rfl
         refine pu_ (i:=54) (N:=some 59) (v:=undef) (a':=?_) rfl rfl (by kernel_rfl) (fun _ _ _ h => h) (Or.inr ⟨by rfl,rfl⟩) ?_ ?_
         rotate_left; simp only [Act.put,sA_,sB_,sC_,i64_w,i32_w]; rfl
         refine pu_ (i:=55) (N:=some 60) (v:=undef) (a':=?_) rfl rfl (by kernel_rfl) (fun _ _ _ h => h) (Or.inr ⟨by rfl,rfl⟩) ?_ ?_
         rotate_left; simp only [Act.put,sA_,sB_,sC_,i64_w,i32_w]; rfl
         refine pu_ (i:=56) (N:=some 61) (v:=?_) (a':=?_) rfl rfl (by kernel_rfl) (fun _ _ _ h => h) (Or.inl ⟨by rfl,?_⟩) ?_ ?_
         rotate_left; intro w'; go_simp; with_reducible rfl; rotate_left; simp only [Act.put,sA_,sB_,sC_,i64_w,i32_w]; rfl
         refine pu_ (i:=57) (N:=some 62) (v:=?_) (a':=?_) rfl rfl (by kernel_rfl) (fun _ _ _ h => h) (Or.inl ⟨by rfl,?_⟩) ?_ ?_
         rotate_left; intro w'; go_simp; with_reducible rfl; rotate_left; simp only [Act.put,sA_,sB_,sC_,i64_w,i32_w]; rfl
         refine pu_ (i:=58) (N:=some 63) (v:=undef) (a':=?_) rfl rfl (by kernel_rfl) (fun _ _ _ h => h) (Or.inr ⟨by rfl,rfl⟩) ?_ ?_
         rotate_left; simp only [Act.put,sA_,sB_,sC_,i64_w,i32_w]; rfl
         refine pu_ (i:=59) (N:=some 64) (v:=undef) (a':=?_) rfl rfl (by kernel_rfl) (fun _ _ _ h => h) (Or.inr ⟨by rfl,rfl⟩) ?_ ?_
         rotate_left; simp only [Act.put,sA_,sB_,sC_,i64_w,i32_w]; rfl
         refine pu_ (i:=60) (N:=some 65) (v:=undef) (a':=?_) rfl rfl (by kernel_rfl) (fun _ _ _ h => h) (Or.inr ⟨by rfl,rfl⟩) ?_ ?_
         rotate_left; simp only [Act.put,sA_,sB_,sC_,i64_w,i32_w]; rfl
         refine pu_ (i:=61) (N:=some 66) (v:=?_) (a':=?_) rfl rfl (by kernel_rfl) (fun _ _ _ h => h) (Or.inl ⟨by rfl,?_⟩) ?_ ?_
         rotate_left; intro w'; go_simp; with_reducible rfl; rotate_left; simp only [Act.put,sA_,sB_,sC_,i64_w,i32_w]; rfl
         as_aux_lemma =>
          refine pure_ (i:=62) (N:=some 67) (v:=?_) (a':=?_) #[t_,t_,t_,t_,t_,t_,t_,t_,t_,t_,t_,t_,t_,t_,t_,t_,t_,t_,t_,t_,t_,t_,t_,t_,t_,t_,t_,t_,t_,t_,t_,t_,t_,t_,t_,t_,t_,t_,t_,t_,t_,t_,t_,t_,t_,t_,t_,t_,t_,t_,t_,t_,t_,t_,t_,t_,t_,t_,t_,t_,t_,t_,t_,f_,f_,f_,f_] rfl rfl (by kernel_rfl) (fun _ _ _ h => h) (Or.inl ⟨by rfl,?_⟩) ?_ ?_
          rotate_left; intro w'; go_simp; with_reducible rfl; rotate_left; simp only [Act.put,sA_,sB_,sC_,i64_w,i32_w]; rfl
          refine pu_ (i:=63) (N:=some 68) (v:=undef) (a':=?_) rfl rfl (by kernel_rfl) (fun _ _ _ h => h) (Or.inr ⟨by rfl,rfl⟩) ?_ ?_
          rotate_left; simp only [Act.put,sA_,sB_,sC_,i64_w,i32_w]; rfl
          refine pu_ (i:=64) (N:=some 69) (v:=undef) (a':=?_) rfl rfl (by kernel_rfl) (fun _ _ _ h => h) (Or.inr ⟨by rfl,rfl⟩) ?_ ?_
          rotate_left; simp only [Act.put,sA_,sB_,sC_,i64_w,i32_w]; rfl
          refine pu_ (i:=65) (N:=some 70) (v:=undef) (a':=?_) rfl rfl (by kernel_rfl) (fun _ _ _ h => h) (Or.inr ⟨by rfl,rfl⟩) ?_ ?_
          rotate_left; simp only [Act.put,sA_,sB_,sC_,i64_w,i32_w]; rfl
          refine pu_ (i:=66) (N:=some 71) (v:=?_) (a':=?_) rfl rfl (by kernel_rfl) (fun _ _ _ h => h) (Or.inl ⟨by rfl,?_⟩) ?_ ?_
          rotate_left; intro w'; go_simp; with_reducible rfl; rotate_left; simp only [Act.put,sA_,sB_,sC_,i64_w,i32_w]; rfl
          refine done_ (by kernel_rfl) ?_
          go_wp2_with fail
          go_ret
          exact ⟨rfl,((Fr.refl hok).al _).dr⟩
   refine pu_ (i:=15) (N:=some 20) (v:=?_) (a':=?_) rfl rfl (by kernel_rfl) (fun _ _ _ h => h) (Or.inl ⟨by rfl,?_⟩) ?_ ?_
   rotate_left; intro w'; go_simp; with_reducible rfl; rotate_left; simp only [Act.put,sA_,sB_,sC_,i64_w,i32_w]; rfl
   refine pu_ (i:=16) (N:=some 21) (v:=?_) (a':=?_) rfl rfl (by kernel_rfl) (fun _ _ _ h => h) (Or.inl ⟨by rfl,?_⟩) ?_ ?_
   rotate_left; intro w'; go_simp; with_reducible rfl; rotate_left; simp only [Act.put,sA_,sB_,sC_,i64_w,i32_w]; rfl
   refine pu_ (i:=17) (N:=some 22) (v:=?_) (a':=?_) rfl rfl (by kernel_rfl) (fun _ _ _ h => h) (Or.inl ⟨by rfl,?_⟩) ?_ ?_
   rotate_left; intro w'; go_simp; with_reducible rfl; rotate_left; simp only [Act.put,sA_,sB_,sC_,i64_w,i32_w]; rfl
   refine pu_ (i:=18) (N:=some 23) (v:=?_) (a':=?_) rfl rfl (by kernel_rfl) (fun _ _ _ h => h) (Or.inl ⟨by rfl,?_⟩) ?_ ?_
   rotate_left; intro w'; go_simp; with_reducible rfl; rotate_left; simp only [Act.put,sA_,sB_,sC_,i64_w,i32_w]; rfl
   refine tk_ (i:=19) (N:=some 24) (v:=?_) (a':=?_) rfl rfl (by kernel_rfl) (fun _ _ _ h => h) (Or.inl ⟨by rfl,?_⟩) hHeld ?_ ?_
   rotate_left; rintro w' ⟨s0,s1,s2,s3,s4,s5,s6,s7⟩; go_simp; with_reducible rfl; rotate_left; simp only [Act.put,sA_,sB_,sC_,i64_w,i32_w]; rfl
   rcases Bool.eq_false_or_eq_true (decide (mp < 0)) with g20 | g20
   · as_aux_lemma =>
      refine pu_ (i:=20) (N:=some 25) (v:=?_) (a':=?_) rfl rfl (by kernel_rfl) (fun _ _ _ h => h) (Or.inl ⟨by rfl,?_⟩) ?_ ?_
      rotate_left; intro w'; go_simp; with_reducible rfl; rotate_left; simp only [Act.put,sA_,sB_,sC_,i64_w,i32_w]; rfl
      refine pu_ (i:=21) (N:=some 26) (v:=?_) (a':=?_) rfl rfl (by kernel_rfl) (fun _ _ _ h => h) (Or.inl ⟨by rfl,?_⟩) ?_ ?_
      rotate_left; intro w'; go_simp; with_reducible rfl; rotate_left; simp only [Act.put,sA_,sB_,sC_,i64_w,i32_w]; rfl
      refine pu_ (i:=22) (N:=some 27) (v:=?_) (a':=?_) rfl rfl (by kernel_rfl) (fun _ _ _ h => h) (Or.inl ⟨by rfl,?_⟩) ?_ ?_
      rotate_left; intro w'; go_simp; with_reducible rfl; rotate_left; simp only [Act.put,sA_,sB_,sC_,i64_w,i32_w]; rfl
      refine pu_ (i:=23) (N:=some 28) (v:=undef) (a':=?_) rfl rfl (by kernel_rfl) (fun _ _ _ h => h) (Or.inr ⟨by rfl,rfl⟩) ?_ ?_
      rotate_left; simp only [Act.put,sA_,sB_,sC_,i64_w,i32_w]; rfl
      refine pu_ (i:=24) (N:=some 29) (v:=undef) (a':=?_) rfl rfl (by kernel_rfl) (fun _ _ _ h => h) (Or.inr ⟨by rfl,rfl⟩) ?_ ?_
      rotate_left; simp only [Act.put,sA_,sB_,sC_,i64_w,i32_w]; rfl
      refine pu_ (i:=25) (N:=some 30) (v:=undef) (a':=?_) rfl rfl (by kernel_rfl) (fun _ _ _ h => h) (Or.inr ⟨by rfl,rfl⟩) ?_ ?_
      rotate_left; simp only [Act.put,sA_,sB_,sC_,i64_w,i32_w]; rfl
      refine pu_ (i:=26) (N:=some 31) (v:=?_) (a':=?_) rfl rfl (by kernel_rfl) (fun _ _ _ h => h) (Or.inl ⟨by rfl,?_⟩) ?_ ?_
      rotate_left; intro w'; go_simp; with_reducible rfl; rotate_left; simp only [Act.put,sA_,sB_,sC_,i64_w,i32_w]; rfl
      refine pu_ (i:=27) (N:=some 32) (v:=?_) (a':=?_) rfl rfl (by kernel_rfl) (fun _ _ _ h => h) (Or.inl ⟨by rfl,?_⟩) ?_ ?_
      rotate_left; intro w'; go_simp; with_reducible rfl; rotate_left; simp only [Act.put,sA_,sB_,sC_,i64_w,i32_w]; rfl
      refine pu_ (i:=28) (N:=some 33) (v:=undef) (a':=?_) rfl rfl (by kernel_rfl) (fun _ _ _ h => h) (Or.inr ⟨by rfl,rfl⟩) ?_ ?_
      rotate_left; simp only [Act.put,sA_,sB_,sC_,i64_w,i32_w]; rfl
      refine pu_ (i:=29) (N:=some 34) (v:=undef) (a':=?_) rfl rfl (by kernel_rfl) (fun _ _ _ h => h) (Or.inr ⟨by rfl,rfl⟩) ?_ ?_
      rotate_left; simp only [Act.put,sA_,sB_,sC_,i64_w,i32_w]; rfl
      refine pu_ (i:=30) (N:=some 35) (v:=undef) (a':=?_) rfl rfl (by kernel_rfl) (fun _ _ _ h => h) (Or.inr ⟨by rfl,rfl⟩) ?_ ?_
      rotate_left; simp only [Act.put,sA_,sB_,sC_,i64_w,i32_w]; rfl
      as_aux_lemma =>
       refine pure_ (i:=31) (N:=some 36) (v:=?_) (a':=?_) #[t_,t_,t_,t_,t_,t_,t_,t_,t_,t_,t_,t_,t_,t_,t_,t_,t_,t_,t_,t_,t_,t_,t_,t_,t_,t_,t_,t_,t_,t_,t_,t_,f_,f_,f_,f_,f_,f_,f_,f_,f_,f_,f_,f_,f_,f_,f_,f_,f_,f_,f_,f_,f_,f_,f_,f_,f_,f_,f_,f_,f_,f_,f_,f_,f_,f_,f_] rfl rfl (by kernel_rfl) (fun _ _ _ h => h) (Or.inl ⟨by rfl,?_⟩) ?_ ?_
       rotate_left; intro w'; go_simp; with_reducible rfl; rotate_left; simp only [Act.put,sA_,sB_,sC_,i64_w,i32_w]; rfl
       refine pu_ (i:=32) (N:=some 37) (v:=?_) (a':=?_) rfl rfl (by kernel_rfl) (fun _ _ _ h => h) (Or.inl ⟨by rfl,?_⟩) ?_ ?_
       rotate_left; intro w'; go_simp; with_reducible rfl; rotate_left; simp only [Act.put,sA_,sB_,sC_,i64_w,i32_w]; rfl
       refine pu_ (i:=33) (N:=some 38) (v:=undef) (a':=?_) rfl rfl (by kernel_rfl) (fun _ _ _ h => h) (Or.inr ⟨by rfl,rfl⟩) ?_ ?_
       rotate_left; simp only [Act.put,sA_,sB_,sC_,i64_w,i32_w]; rfl
       refine pu_ (i:=34) (N:=some 39) (v:=undef) (a':=?_) rfl rfl (by kernel_rfl) (fun _ _ _ h => h) (Or.inr ⟨by rfl,rfl⟩) ?_ ?_
       rotate_left; simp only [Act.put,sA_,sB_,sC_,i64_w,i32_w]; rfl
       refine pu_ (i:=35) (N:=some 40) (v:=undef) (a':=?_) rfl rfl (by kernel_rfl) (fun _ _ _ h => h) (Or.inr ⟨by rfl,rfl⟩) ?_ ?_
       rotate_left; simp only [Act.put,sA_,sB_,sC_,i64_w,i32_w]; rfl
       refine pu_ (i:=36) (N:=some 41) (v:=undef) (a':=?_) rfl rfl (by kernel_rfl) (fun _ _ _ h => h) (Or.inr ⟨by rfl,rfl⟩) ?_ ?_
       rotate_left; simp only [Act.put,sA_,sB_,sC_,i64_w,i32_w]; rfl
       refine pu_ (i:=37) (N:=some 42) (v:=undef) (a':=?_) rfl rfl (by kernel_rfl) (fun _ _ _ h => h) (Or.inr ⟨by rfl,rfl⟩) ?_ ?_
       rotate_left; simp only [Act.put,sA_,sB_,sC_,i64_w,i32_w]; rfl
       refine pu_ (i:=38) (N:=some 43) (v:=undef) (a':=?_) rfl rfl (by kernel_rfl) (fun _ _ _ h => h) (Or.inr ⟨by rfl,rfl⟩) ?_ ?_
       rotate_left; simp only [Act.put,sA_,sB_,sC_,i64_w,i32_w]; rfl
       refine pu_ (i:=39) (N:=some 44) (v:=undef) (a':=?_) rfl rfl (by kernel_rfl) (fun _ _ _ h => h) (Or.inr ⟨by rfl,rfl⟩) ?_ ?_
       rotate_left; simp only [Act.put,sA_,sB_,sC_,i64_w,i32_w]; rfl
       refine pu_ (i:=40) (N:=some 45) (v:=undef) (a':=?_) rfl rfl (by kernel_rfl) (fun _ _ _ h => h) (Or.inr ⟨by rfl,rfl⟩) ?_ ?_
       rotate_left; simp only [Act.put,sA_,sB_,sC_,i64_w,i32_w]; rfl
       refine pu_ (i:=41) (N:=some 46) (v:=?_) (a':=?_) rfl rfl (by kernel_rfl) (fun _ _ _ h => h) (Or.inl ⟨by rfl,?_⟩) ?_ ?_
       rotate_left; intro w'; go_simp; with_reducible rfl; rotate_left; simp only [Act.put,sA_,sB_,sC_,i64_w,i32_w]; rfl
       refine pu_ (i:=42) (N:=some 47) (v:=?_) (a':=?_) rfl rfl (by kernel_rfl) (fun _ _ _ h => h) (Or.inl ⟨by rfl,?_⟩) ?_ ?_
       rotate_left; intro w'; go_simp; with_reducible rfl; rotate_left; simp only [Act.put,sA_,sB_,sC_,i64_w,i32_w]; rfl
       as_aux_lemma =>
        refine pure_ (i:=43) (N:=some 48) (v:=undef) (a':=?_) #[t_,t_,t_,t_,t_,t_,t_,t_,t_,t_,t_,t_,t_,t_,t_,t_,t_,t_,t_,t_,t_,t_,t_,t_,t_,t_,t_,t_,t_,t_,t_,t_,t_,t_,t_,t_,t_,t_,t_,t_,t_,t_,t_,t_,f_,f_,f_,f_,f_,f_,f_,f_,f_,f_,f_,f_,f_,f_,f_,f_,f_,f_,f_,f_,f_,f_,f_] rfl rfl (by kernel_rfl) (fun _ _ _ h => h) (Or.inr ⟨by rfl,rfl⟩) ?_ ?_
        rotate_left; simp only [Act.put,sA_,sB_,sC_,i64_w,i32_w]; rfl
        refine pu_ (i:=44) (N:=some 49) (v:=undef) (a':=?_) rfl rfl (by kernel_rfl) (fun _ _ _ h => h) (Or.inr ⟨by rfl,rfl⟩) ?_ ?_
        rotate_left; simp only [Act.put,sA_,sB_,sC_,i64_w,i32_w]; rfl
        refine pu_ (i:=45) (N:=some 50) (v:=undef) (a':=?_) rfl rfl (by kernel_rfl) (fun _ _ _ h => h) (Or.inr ⟨by rfl,rfl⟩) ?_ ?_
        rotate_left; simp only [Act.put,sA_,sB_,sC_,i64_w,i32_w]; rfl
        refine pu_ (i:=46) (N:=some 51) (v:=?_) (a':=?_) rfl rfl (by kernel_rfl) (fun _ _ _ h => h) (Or.inl ⟨by rfl,?_⟩) ?_ ?_
        rotate_left; intro w'; go_simp; with_reducible rfl; rotate_left; simp only [Act.put,sA_,sB_,sC_,i64_w,i32_w]; rfl
        refine pu_ (i:=47) (N:=some 52) (v:=?_) (a':=?_) rfl rfl (by kernel_rfl) (fun _ _ _ h => h) (Or.inl ⟨by rfl,?_⟩) ?_ ?_
        rotate_left; intro w'; go_simp; with_reducible rfl; rotate_left; simp only [Act.put,sA_,sB_,sC_,i64_w,i32_w]; rfl
        refine pu_ (i:=48) (N:=some 53) (v:=undef) (a':=?_) rfl rfl (by kernel_rfl) (fun _ _ _ h => h) (Or.inr ⟨by rfl,rfl⟩) ?_ ?_
        rotate_left; simp only [Act.put,sA_,sB_,sC_,i64_w,i32_w]; rfl
        refine pu_ (i:=49) (N:=some 54) (v:=undef) (a':=?_) rfl rfl (by kernel_rfl) (fun _ _ _ h => h) (Or.inr ⟨by rfl,rfl⟩) ?_ ?_
        rotate_left; simp only [Act.put,sA_,sB_,sC_,i64_w,i32_w]; rfl
        refine pu_ (i:=50) (N:=some 55) (v:=undef) (a':=?_) rfl rfl (by kernel_rfl) (fun _ _ _ h => h) (Or.inr ⟨by rfl,rfl⟩) ?_ ?_
        rotate_left; simp only [Act.put,sA_,sB_,sC_,i64_w,i32_w]; rfl
        refine pu_ (i:=51) (N:=some 56) (v:=undef) (a':=?_) rfl rfl (by kernel_rfl) (fun _ _ _ h => h) (Or.inr ⟨by rfl,rfl⟩) ?_ ?_
        rotate_left; simp only [Act.put,sA_,sB_,sC_,i64_w,i32_w]; rfl
        refine pu_ (i:=52) (N:=some 57) (v:=undef) (a':=?_) rfl rfl (by kernel_rfl) (fun _ _ _ h => h) (Or.inr ⟨by rfl,rfl⟩) ?_ ?_
        rotate_left; simp only [Act.put,sA_,sB_,sC_,i64_w,i32_w]; rfl
        refine pu_ (i:=53) (N:=some 58) (v:=undef) (a':=?_) rfl rfl (by kernel_rfl) (fun _ _ _ h => h) (Or.inr ⟨by rfl,rfl⟩) ?_ ?_
        rotate_left; simp only [Act.put,sA_,sB_,sC_,i64_w,i32_w]; rfl
        refine pu_ (i:=54) (N:=some 59) (v:=undef) (a':=?_) rfl rfl (by kernel_rfl) (fun _ _ _ h => h) (Or.inr ⟨by rfl,rfl⟩) ?_ ?_
        rotate_left; simp only [Act.put,sA_,sB_,sC_,i64_w,i32_w]; rfl
        as_aux_lemma =>
         refine pure_ (i:=55) (N:=some 60) (v:=undef) (a':=?_) #[t_,t_,t_,t_,t_,t_,t_,t_,t_,t_,t_,t_,t_,t_,t_,t_,t_,t_,t_,t_,t_,t_,t_,t_,t_,t_,t_,t_,t_,t_,t_,t_,t_,t_,t_,t_,t_,t_,t_,t_,t_,t_,t_,t_,t_,t_,t_,t_,t_,t_,t_,t_,t_,t_,t_,t_,f_,f_,f_,f_,f_,f_,f_,f_,f_,f_,f_] rfl rfl (by kernel_rfl) (fun _ _ _ h => h) (Or.inr ⟨by rfl,rfl⟩) ?_ ?_
         rotate_left; simp only [Act.put,sA_,sB_,sC_,i64_w,i32_w]; rfl
         refine pu_ (i:=56) (N:=some 61) (v:=?_) (a':=?_) rfl rfl (by kernel_rfl) (fun _ _ _ h => h) (Or.inl ⟨by rfl,?_⟩) ?_ ?_
         rotate_left; intro w'; go_simp; with_reducible rfl; rotate_left; simp only [Act.put,sA_,sB_,sC_,i64_w,i32_w]; rfl
         refine pu_ (i:=57) (N:=some 62) (v:=?_) (a':=?_) rfl rfl (by kernel_rfl) (fun _ _ _ h => h) (Or.inl ⟨by rfl,?_⟩) ?_ ?_
         rotate_left; intro w'; go_simp; with_reducible rfl; rotate_left; simp only [Act.put,sA_,sB_,sC_,i64_w,i32_w]; rfl
         refine pu_ (i:=58) (N:=some 63) (v:=undef) (a':=?_) rfl rfl (by kernel_rfl) (fun _ _ _ h => h) (Or.inr ⟨by rfl,rfl⟩) ?_ ?_
         rotate_left; simp only [Act.put,sA_,sB_,sC_,i64_w,i32_w]; rfl
         refine pu_ (i:=59) (N:=some 64) (v:=undef) (a':=?_) rfl rfl (by kernel_rfl) (fun _ _ _ h => h) (Or.inr ⟨by rfl,rfl⟩) ?_ ?_
         rotate_left; simp only [Act.put,sA_,sB_,sC_,i64_w,i32_w]; rfl
         refine pu_ (i:=60) (N:=some 65) (v:=undef) (a':=?_) rfl rfl (by kernel_rfl) (fun _ _ _ h => h) (Or.inr ⟨by rfl,rfl⟩) ?_ ?_
         rotate_left; simp only [Act.put,sA_,sB_,sC_,i64_w,i32_w]; rfl
         refine pu_ (i:=61) (N:=some 66) (v:=?_) (a':=?_) rfl rfl (by kernel_rfl) (fun _ _ _ h => h) (Or.inl ⟨by rfl,?_⟩) ?_ ?_
         rotate_left; intro w'; go_simp; with_reducible rfl; rotate_left; simp only [Act.put,sA_,sB_,sC_,i64_w,i32_w]; rfl
         refine pu_ (i:=62) (N:=some 67) (v:=?_) (a':=?_) rfl rfl (by kernel_rfl) (fun _ _ _ h => h) (Or.inl ⟨by rfl,?_⟩) ?_ ?_
         rotate_left; intro w'; go_simp; with_reducible rfl; rotate_left; simp only [Act.put,sA_,sB_,sC_,i64_w,i32_w]; rfl
         refine pu_ (i:=63) (N:=some 68) (v:=undef) (a':=?_) rfl rfl (by kernel_rfl) (fun _ _ _ h => h) (Or.inr ⟨by rfl,rfl⟩) ?_ ?_
         rotate_left; simp only [Act.put,sA_,sB_,sC_,i64_w,i32_w]; rfl
         refine pu_ (i:=64) (N:=some 69) (v:=undef) (a':=?_) rfl rfl (by kernel_rfl) (fun _ _ _ h => h) (Or.inr ⟨by rfl,rfl⟩) ?_ ?_
         rotate_left; simp only [Act.put,sA_,sB_,sC_,i64_w,i32_w]; rfl
         refine pu_ (i:=65) (N:=some 70) (v:=undef) (a':=?_) rfl rfl (by kernel_rfl) (fun _ _ _ h => h) (Or.inr ⟨by rfl,rfl⟩) ?_ ?_
         rotate_left; simp only [Act.put,sA_,sB_,sC_,i64_w,i32_w]; rfl
         refine pu_ (i:=66) (N:=some 71) (v:=?_) (a':=?_) rfl rfl (by kernel_rfl) (fun _ _ _ h => h) (Or.inl ⟨by rfl,?_⟩) ?_ ?_
         rotate_left; intro w'; go_simp; with_reducible rfl; rotate_left; simp only [Act.put,sA_,sB_,sC_,i64_w,i32_w]; rfl
         as_aux_lemma =>
          refine done_ (by kernel_rfl) ?_
          go_wp2_with fail
          go_ret
          exact ⟨rfl,((Fr.refl hok).al _).dr⟩
   refine pu_ (i:=20) (N:=some 25) (v:=?_) (a':=?_) rfl rfl (by kernel_rfl) (fun _ _ _ h => h) (Or.inl ⟨by rfl,?_⟩) ?_ ?_
   rotate_left; intro w'; go_simp; with_reducible rfl; rotate_left; simp only [Act.put,sA_,sB_,sC_,i64_w,i32_w]; rfl
   refine pu_ (i:=21) (N:=some 26) (v:=?_) (a':=?_) rfl rfl (by kernel_rfl) (fun _ _ _ h => h) (Or.inl ⟨by rfl,?_⟩) ?_ ?_
   rotate_left; intro w'; go_simp; with_reducible rfl; rotate_left; simp only [Act.put,sA_,sB_,sC_,i64_w,i32_w]; rfl
   as_aux_lemma =>
    refine pure_ (i:=22) (N:=some 27) (v:=?_) (a':=?_) #[t_,t_,t_,t_,t_,t_,t_,t_,t_,t_,t_,t_,t_,t_,t_,t_,t_,t_,t_,t_,t_,t_,t_,f_,f_,f_,f_,f_,f_,f_,f_,f_,f_,f_,f_,f_,f_,f_,f_,f_,f_,f_,f_,f_,f_,f_,f_,f_,f_,f_,f_,f_,f_,f_,f_,f_,f_,f_,f_,f_,f_,f_,f_,f_,f_,f_,f_] rfl rfl (by kernel_rfl) (fun _ _ _ h => h) (Or.inl ⟨by rfl,?_⟩) ?_ ?_
    rotate_left; intro w'; go_simp; with_reducible rfl; rotate_left; simp only [Act.put,sA_,sB_,sC_,i64_w,i32_w]; rfl
    refine pu_ (i:=23) (N:=some 28) (v:=?_) (a':=?_) rfl rfl (by kernel_rfl) (fun _ _ _ h => h) (Or.inl ⟨by rfl,?_⟩) ?_ ?_
    rotate_left; intro w'; go_simp; with_reducible rfl; rotate_left; simp only [Act.put,sA_,sB_,sC_,i64_w,i32_w]; rfl
    refine tk_ (i:=24) (N:=some 29) (v:=?_) (a':=?_) rfl rfl (by kernel_rfl) (fun _ _ _ h => h) (Or.inl ⟨by rfl,?_⟩) hHeld ?_ ?_
    rotate_left; rintro w' ⟨s0,s1,s2,s3,s4,s5,s6,s7⟩; go_simp; with_reducible rfl; rotate_left; simp only [Act.put,sA_,sB_,sC_,i64_w,i32_w]; rfl
    rcases Bool.eq_false_or_eq_true (decide (2147483647 < mp)) with g25 | g25
    · as_aux_lemma =>
       refine pu_ (i:=25) (N:=some 30) (v:=?_) (a':=?_) rfl rfl (by kernel_rfl) (fun _ _ _ h => h) (Or.inl ⟨by rfl,?_⟩) ?_ ?_
       rotate_left; intro w'; go_simp; with_reducible rfl; rotate_left; simp only [Act.put,sA_,sB_,sC_,i64_w,i32_w]; rfl
       refine pu_ (i:=26) (N:=some 31) (v:=?_) (a':=?_) rfl rfl (by kernel_rfl) (fun _ _ _ h => h) (Or.inl ⟨by rfl,?_⟩) ?_ ?_
       rotate_left; intro w'; go_simp; with_reducible rfl; rotate_left; simp only [Act.put,sA_,sB_,sC_,i64_w,i32_w]; rfl
       refine pu_ (i:=27) (N:=some 32) (v:=?_) (a':=?_) rfl rfl (by kernel_rfl) (fun _ _ _ h => h) (Or.inl ⟨by rfl,?_⟩) ?_ ?_
       rotate_left; intro w'; go_simp; with_reducible rfl; rotate_left; simp only [Act.put,sA_,sB_,sC_,i64_w,i32_w]; rfl
       refine pu_ (i:=28) (N:=some 33) (v:=undef) (a':=?_) rfl rfl (by kernel_rfl) (fun _ _ _ h => h) (Or.inr ⟨by rfl,rfl⟩) ?_ ?_
       rotate_left; simp only [Act.put,sA_,sB_,sC_,i64_w,i32_w]; rfl
       refine pu_ (i:=29) (N:=some 34) (v:=undef) (a':=?_) rfl rfl (by kernel_rfl) (fun _ _ _ h => h) (Or.inr ⟨by rfl,rfl⟩) ?_ ?_
       rotate_left; simp only [Act.put,sA_,sB_,sC_,i64_w,i32_w]; rfl
       refine pu_ (i:=30) (N:=some 35) (v:=undef) (a':=?_) rfl rfl (by kernel_rfl) (fun _ _ _ h => h) (Or.inr ⟨by rfl,rfl⟩) ?_ ?_
       rotate_left; simp only [Act.put,sA_,sB_,sC_,i64_w,i32_w]; rfl
       refine pu_ (i:=31) (N:=some 36) (v:=?_) (a':=?_) rfl rfl (by kernel_rfl) (fun _ _ _ h => h) (Or.inl ⟨by rfl,?_⟩) ?_ ?_
       rotate_left; intro w'; go_simp; with_reducible rfl; rotate_left; simp only [Act.put,sA_,sB_,sC_,i64_w,i32_w]; rfl
       refine pu_ (i:=32) (N:=some 37) (v:=?_) (a':=?_) rfl rfl (by kernel_rfl) (fun _ _ _ h => h) (Or.inl ⟨by rfl,?_⟩) ?_ ?_
       rotate_left; intro w'; go_simp; with_reducible rfl; rotate_left; simp only [Act.put,sA_,sB_,sC_,i64_w,i32_w]; rfl
       refine pu_ (i:=33) (N:=some 38) (v:=undef) (a':=?_) rfl rfl (by kernel_rfl) (fun _ _ _ h => h) (Or.inr ⟨by rfl,rfl⟩) ?_ ?_
       rotate_left; simp only [Act.put,sA_,sB_,sC_,i64_w,i32_w]; rfl
       refine pu_ (i:=34) (N:=some 39) (v:=undef) (a':=?_) rfl rfl (by kernel_rfl) (fun _ _ _ h => h) (Or.inr ⟨by rfl,rfl⟩) ?_ ?_
       rotate_left; simp only [Act.put,sA_,sB_,sC_,i64_w,i32_w]; rfl
       refine pu_ (i:=35) (N:=some 40) (v:=undef) (a':=?_) rfl rfl (by kernel_rfl) (fun _ _ _ h => h) (Or.inr ⟨by rfl,rfl⟩) ?_ ?_
       rotate_left; simp only [Act.put,sA_,sB_,sC_,i64_w,i32_w]; rfl
       as_aux_lemma =>
        refine pure_ (i:=36) (N:=some 41) (v:=undef) (a':=?_) #[t_,t_,t_,t_,t_,t_,t_,t_,t_,t_,t_,t_,t_,t_,t_,t_,t_,t_,t_,t_,t_,t_,t_,t_,t_,t_,t_,t_,t_,t_,t_,t_,t_,t_,t_,t_,t_,f_,f_,f_,f_,f_,f_,f_,f_,f_,f_,f_,f_,f_,f_,f_,f_,f_,f_,f_,f_,f_,f_,f_,f_,f_,f_,f_,f_,f_,f_] rfl rfl (by kernel_rfl) (fun _ _ _ h => h) (Or.inr ⟨by rfl,rfl⟩) ?_ ?_
        rotate_left; simp only [Act.put,sA_,sB_,sC_,i64_w,i32_w]; rfl
        refine pu_ (i:=37) (N:=some 42) (v:=undef) (a':=?_) rfl rfl (by kernel_rfl) (fun _ _ _ h => h) (Or.inr ⟨by rfl,rfl⟩) ?_ ?_
        rotate_left; simp only [Act.put,sA_,sB_,sC_,i64_w,i32_w]; rfl
        refine pu_ (i:=38) (N:=some 43) (v:=undef) (a':=?_) rfl rfl (by kernel_rfl) (fun _ _ _ h => h) (Or.inr ⟨by rfl,rfl⟩) ?_ ?_
        rotate_left; simp only [Act.put,sA_,sB_,sC_,i64_w,i32_w]; rfl
        refine pu_ (i:=39) (N:=some 44) (v:=undef) (a':=?_) rfl rfl (by kernel_rfl) (fun _ _ _ h => h) (Or.inr ⟨by rfl,rfl⟩) ?_ ?_
        rotate_left; simp only [Act.put,sA_,sB_,sC_,i64_w,i32_w]; rfl
        refine pu_ (i:=40) (N:=some 45) (v:=undef) (a':=?_) rfl rfl (by kernel_rfl) (fun _ _ _ h => h) (Or.inr ⟨by rfl,rfl⟩) ?_ ?_
        rotate_left; simp only [Act.put,sA_,sB_,sC_,i64_w,i32_w]; rfl
        refine pu_ (i:=41) (N:=some 46) (v:=?_) (a':=?_) rfl rfl (by kernel_rfl) (fun _ _ _ h => h) (Or.inl ⟨by rfl,?_⟩) ?_ ?_
        rotate_left; intro w'; go_simp; with_reducible rfl; rotate_left; simp only [Act.put,sA_,sB_,sC_,i64_w,i32_w]; rfl
        refine pu_ (i:=42) (N:=some 47) (v:=?_) (a':=?_) rfl rfl (by kernel_rfl) (fun _ _ _ h => h) (Or.inl ⟨by rfl,?_⟩) ?_ ?_
        rotate_left; intro w'; go_simp; with_reducible rfl; rotate_left; simp only [Act.put,sA_,sB_,sC_,i64_w,i32_w]; rfl
        refine pu_ (i:=43) (N:=some 48) (v:=undef) (a':=?_) rfl rfl (by kernel_rfl) (fun _ _ _ h => h) (Or.inr ⟨by rfl,rfl⟩) ?_ ?_
        rotate_left; simp only [Act.put,sA_,sB_,sC_,i64_w,i32_w]; rfl
        refine pu_ (i:=44) (N:=some 49) (v:=undef) (a':=?_) rfl rfl (by kernel_rfl) (fun _ _ _ h => h) (Or.inr ⟨by rfl,rfl⟩) ?_ ?_
        rotate_left; simp only [Act.put,sA_,sB_,sC_,i64_w,i32_w]; rfl
        refine pu_ (i:=45) (N:=some 50) (v:=undef) (a':=?_) rfl rfl (by kernel_rfl) (fun _ _ _ h => h) (Or.inr ⟨by rfl,rfl⟩) ?_ ?_
        rotate_left; simp only [Act.put,sA_,sB_,sC_,i64_w,i32_w]; rfl
        refine pu_ (i:=46) (N:=some 51) (v:=?_) (a':=?_) rfl rfl (by kernel_rfl) (fun _ _ _ h => h) (Or.inl ⟨by rfl,?_⟩) ?_ ?_
        rotate_left; intro w'; go_simp; with_reducible rfl; rotate_left; simp only [Act.put,sA_,sB_,sC_,i64_w,i32_w]; rfl
        refine pu_ (i:=47) (N:=some 52) (v:=?_) (a':=?_) rfl rfl (by kernel_rfl) (fun _ _ _ h => h) (Or.inl ⟨by rfl,?_⟩) ?_ ?_
        rotate_left; intro w'; go_simp; with_reducible rfl; rotate_left; simp only [Act.put,sA_,sB_,sC_,i64_w,i32_w]; rfl
        as_aux_lemma =>
         refine pure_ (i:=48) (N:=some 53) (v:=undef) (a':=?_) #[t_,t_,t_,t_,t_,t_,t_,t_,t_,t_,t_,t_,t_,t_,t_,t_,t_,t_,t_,t_,t_,t_,t_,t_,t_,t_,t_,t_,t_,t_,t_,t_,t_,t_,t_,t_,t_,t_,t_,t_,t_,t_,t_,t_,t_,t_,t_,t_,t_,f_,f_,f_,f_,f_,f_,f_,f_,f_,f_,f_,f_,f_,f_,f_,f_,f_,f_] rfl rfl (by kernel_rfl) (fun _ _ _ h => h) (Or.inr ⟨by rfl,rfl⟩) ?_ ?_
         rotate_left; simp only [Act.put,sA_,sB_,sC_,i64_w,i32_w]; rfl
         refine pu_ (i:=49) (N:=some 54) (v:=undef) (a':=?_) rfl rfl (by kernel_rfl) (fun _ _ _ h => h) (Or.inr ⟨by rfl,rfl⟩) ?_ ?_
         rotate_left; simp only [Act.put,sA_,sB_,sC_,i64_w,i32_w]; rfl
         refine pu_ (i:=50) (N:=some 55) (v:=undef) (a':=?_) rfl rfl (by kernel_rfl) (fun _ _ _ h => h) (Or.inr ⟨by rfl,rfl⟩) ?_ ?_
         rotate_left; simp only [Act.put,sA_,sB_,sC_,i64_w,i32_w]; rfl
         refine pu_ (i:=51) (N:=some 56) (v:=undef) (a':=?_) rfl rfl (by kernel_rfl) (fun _ _ _ h => h) (Or.inr ⟨by rfl,rfl⟩) ?_ ?_
         rotate_left; simp only [Act.put,sA_,sB_,sC_,i64_w,i32_w]; rfl
         refine pu_ (i:=52) (N:=some 57) (v:=undef) (a':=?_) rfl rfl (by kernel_rfl) (fun _ _ _ h => h) (Or.inr ⟨by rfl,rfl⟩) ?_ ?_
         rotate_left; simp only [Act.put,sA_,sB_,sC_,i64_w,i32_w]; rfl
         refine pu_ (i:=53) (N:=some 58) (v:=undef) (a':=?_) rfl rfl (by kernel_rfl) (fun _ _ _ h => h) (Or.inr ⟨by rfl,rfl⟩) ?_ ?_
         rotate_left; simp only [Act.put,sA_,sB_,sC_,i64_w,i32_w]; rfl
         refine pu_ (i:=54) (N:=some 59) (v:=undef) (a':=?_) rfl rfl (by kernel_rfl) (fun _ _ _ h => h) (Or.inr ⟨by rfl,rfl⟩) ?_ ?_
         rotate_left; simp only [Act.put,sA_,sB_,sC_,i64_w,i32_w]; rfl
         refine pu_ (i:=55) (N:=some 60) (v:=undef) (a':=?_) rfl rfl (by kernel_rfl) (fun _ _ _ h => h) (Or.inr ⟨by rfl,rfl⟩) ?_ ?_
         rotate_left; simp only [Act.put,sA_,sB_,sC_,i64_w,i32_w]; rfl
         refine pu_ (i:=56) (N:=some 61) (v:=?_) (a':=?_) rfl rfl (by kernel_rfl) (fun _ _ _ h => h) (Or.inl ⟨by rfl,?_⟩) ?_ ?_
         rotate_left; intro w'; go_simp; with_reducible rfl; rotate_left; simp only [Act.put,sA_,sB_,sC_,i64_w,i32_w]; rfl
         refine pu_ (i:=57) (N:=some 62) (v:=?_) (a':=?_) rfl rfl (by kernel_rfl) (fun _ _ _ h => h) (Or.inl ⟨by rfl,?_⟩) ?_ ?_
         rotate_left; intro w'; go_simp; with_reducible rfl; rotate_left; simp only [Act.put,sA_,sB_,sC_,i64_w,i32_w]; rfl
         refine pu_ (i:=58) (N:=some 63) (v:=undef) (a':=?_) rfl rfl (by kernel_rfl) (fun _ _ _ h => h) (Or.inr ⟨by rfl,rfl⟩) ?_ ?_
         rotate_left; simp only [Act.put,sA_,sB_,sC_,i64_w,i32_w]; rfl
         refine pu_ (i:=59) (N:=some 64) (v:=undef) (a':=?_) rfl rfl (by kernel_rfl) (fun _ _ _ h => h) (Or.inr ⟨by rfl,rfl⟩) ?_ ?_
         rotate_left; simp only [Act.put,sA_,sB_,sC_,i64_w,i32_w]; rfl
         as_aux_lemma =>
          refine pure_ (i:=60) (N:=some 65) (v:=undef) (a':=?_) #[t_,t_,t_,t_,t_,t_,t_,t_,t_,t_,t_,t_,t_,t_,t_,t_,t_,t_,t_,t_,t_,t_,t_,t_,t_,t_,t_,t_,t_,t_,t_,t_,t_,t_,t_,t_,t_,t_,t_,t_,t_,t_,t_,t_,t_,t_,t_,t_,t_,t_,t_,t_,t_,t_,t_,t_,t_,t_,t_,t_,t_,f_,f_,f_,f_,f_,f_] rfl rfl (by kernel_rfl) (fun _ _ _ h => h) (Or.inr ⟨by rfl,rfl⟩) ?_ ?_
          rotate_left; simp only [Act.put,sA_,sB_,sC_,i64_w,i32_w]; rfl
          refine pu_ (i:=61) (N:=some 66) (v:=?_) (a':=?_) rfl rfl (by kernel_rfl) (fun _ _ _ h => h) (Or.inl ⟨by rfl,?_⟩) ?_ ?_
          rotate_left; intro w'; go_simp; with_reducible rfl; rotate_left; simp only [Act.put,sA_,sB_,sC_,i64_w,i32_w]; rfl
          refine pu_ (i:=62) (N:=some 67) (v:=?_) (a':=?_) rfl rfl (by kernel_rfl) (fun _ _ _ h => h) (Or.inl ⟨by rfl,?_⟩) ?_ ?_
          rotate_left; intro w'; go_simp; with_reducible rfl; rotate_left; simp only [Act.put,sA_,sB_,sC_,i64_w,i32_w]; rfl
          refine pu_ (i:=63) (N:=some 68) (v:=undef) (a':=?_) rfl rfl (by kernel_rfl) (fun _ _ _ h => h) (Or.inr ⟨by rfl,rfl⟩) ?_ ?_
          rotate_left; simp only [Act.put,sA_,sB_,sC_,i64_w,i32_w]; rfl
          refine pu_ (i:=64) (N:=some 69) (v:=undef) (a':=?_) rfl rfl (by kernel_rfl) (fun _ _ _ h => h) (Or.inr ⟨by rfl,rfl⟩) ?_ ?_
          rotate_left; simp only [Act.put,sA_,sB_,sC_,i64_w,i32_w]; rfl
          refine pu_ (i:=65) (N:=some 70) (v:=undef) (a':=?_) rfl rfl (by kernel_rfl) (fun _ _ _ h => h) (Or.inr ⟨by rfl,rfl⟩) ?_ ?_
          rotate_left; simp only [Act.put,sA_,sB_,sC_,i64_w,i32_w]; rfl
          refine pu_ (i:=66) (N:=some 71) (v:=?_) (a':=?_) rfl rfl (by kernel_rfl) (fun _ _ _ h => h) (Or.inl ⟨by rfl,?_⟩) ?_ ?_
          rotate_left; intro w'; go_simp; with_reducible rfl; rotate_left; simp only [Act.put,sA_,sB_,sC_,i64_w,i32_w]; rfl
          refine done_ (by kernel_rfl) ?_
          go_wp2_with fail
          go_ret
          exact ⟨rfl,((Fr.refl hok).al _).dr⟩
    refine pu_ (i:=25) (N:=some 30) (v:=?_) (a':=?_) rfl rfl (by kernel_rfl) (fun _ _ _ h => h) (Or.inl ⟨by rfl,?_⟩) ?_ ?_
    rotate_left; intro w'; go_simp; with_reducible rfl; rotate_left; simp only [Act.put,sA_,sB_,sC_,i64_w,i32_w]; rfl
    refine pu_ (i:=26) (N:=some 31) (v:=?_) (a':=?_) rfl rfl (by kernel_rfl) (fun _ _ _ h => h) (Or.inl ⟨by rfl,?_⟩) ?_ ?_
    rotate_left; intro w'; go_simp; with_reducible rfl; rotate_left; simp only [Act.put,sA_,sB_,sC_,i64_w,i32_w]; rfl
    refine pu_ (i:=27) (N:=some 32) (v:=?_) (a':=?_) rfl rfl (by kernel_rfl) (fun _ _ _ h => h) (Or.inl ⟨by rfl,?_⟩) ?_ ?_
    rotate_left; intro w'; go_simp; with_reducible rfl; rotate_left; simp only [Act.put,sA_,sB_,sC_,i64_w,i32_w]; rfl
    refine pu_ (i:=28) (N:=some 33) (v:=?_) (a':=?_) rfl rfl (by kernel_rfl) (fun _ _ _ h => h) (Or.inl ⟨by rfl,?_⟩) ?_ ?_
    rotate_left; intro w'; go_simp; with_reducible rfl; rotate_left; simp only [Act.put,sA_,sB_,sC_,i64_w,i32_w]; rfl
    refine tk_ (i:=29) (N:=some 34) (v:=?_) (a':=?_) rfl rfl (by kernel_rfl) (fun _ _ _ h => h) (Or.inl ⟨by rfl,?_⟩) hHeld ?_ ?_
    rotate_left; rintro w' ⟨s0,s1,s2,s3,s4,s5,s6,s7⟩; go_simp; with_reducible rfl; rotate_left; simp only [Act.put,sA_,sB_,sC_,i64_w,i32_w]; rfl
    rcases Bool.eq_false_or_eq_true (decide (mi < 0)) with g30 | g30
    · as_aux_lemma =>
       refine pu_ (i:=30) (N:=some 35) (v:=?_) (a':=?_) rfl rfl (by kernel_rfl) (fun _ _ _ h => h) (Or.inl ⟨by rfl,?_⟩) ?_ ?_
       rotate_left; intro w'; go_simp; with_reducible rfl; rotate_left; simp only [Act.put,sA_,sB_,sC_,i64_w,i32_w]; rfl
       refine pu_ (i:=31) (N:=some 36) (v:=?_) (a':=?_) rfl rfl (by kernel_rfl) (fun _ _ _ h => h) (Or.inl ⟨by rfl,?_⟩) ?_ ?_
       rotate_left; intro w'; go_simp; with_reducible rfl; rotate_left; simp only [Act.put,sA_,sB_,sC_,i64_w,i32_w]; rfl
       refine pu_ (i:=32) (N:=some 37) (v:=?_) (a':=?_) rfl rfl (by kernel_rfl) (fun _ _ _ h => h) (Or.inl ⟨by rfl,?_⟩) ?_ ?_
       rotate_left; intro w'; go_simp; with_reducible rfl; rotate_left; simp only [Act.put,sA_,sB_,sC_,i64_w,i32_w]; rfl
       refine pu_ (i:=33) (N:=some 38) (v:=undef) (a':=?_) rfl rfl (by kernel_rfl) (fun _ _ _ h => h) (Or.inr ⟨by rfl,rfl⟩) ?_ ?_
       rotate_left; simp only [Act.put,sA_,sB_,sC_,i64_w,i32_w]; rfl
       refine pu_ (i:=34) (N:=some 39) (v:=undef) (a':=?_) rfl rfl (by kernel_rfl) (fun _ _ _ h => h) (Or.inr ⟨by rfl,rfl⟩) ?_ ?_
       rotate_left; simp only [Act.put,sA_,sB_,sC_,i64_w,i32_w]; rfl
       refine pu_ (i:=35) (N:=some 40) (v:=undef) (a':=?_) rfl rfl (by kernel_rfl) (fun _ _ _ h => h) (Or.inr ⟨by rfl,rfl⟩) ?_ ?_
       rotate_left; simp only [Act.put,sA_,sB_,sC_,i64_w,i32_w]; rfl
       refine pu_ (i:=36) (N:=some 41) (v:=undef) (a':=?_) rfl rfl (by kernel_rfl) (fun _ _ _ h => h) (Or.inr ⟨by rfl,rfl⟩) ?_ ?_
       rotate_left; simp only [Act.put,sA_,sB_,sC_,i64_w,i32_w]; rfl
       refine pu_ (i:=37) (N:=some 42) (v:=undef) (a':=?_) rfl rfl (by kernel_rfl) (fun _ _ _ h => h) (Or.inr ⟨by rfl,rfl⟩) ?_ ?_
       rotate_left; simp only [Act.put,sA_,sB_,sC_,i64_w,i32_w]; rfl
       refine pu_ (i:=38) (N:=some 43) (v:=undef) (a':=?_) rfl rfl (by kernel_rfl) (fun _ _ _ h => h) (Or.inr ⟨by rfl,rfl⟩) ?_ ?_
       rotate_left; simp only [Act.put,sA_,sB_,sC_,i64_w,i32_w]; rfl
       refine pu_ (i:=39) (N:=some 44) (v:=undef) (a':=?_) rfl rfl (by kernel_rfl) (fun _ _ _ h => h) (Or.inr ⟨by rfl,rfl⟩) ?_ ?_
       rotate_left; simp only [Act.put,sA_,sB_,sC_,i64_w,i32_w]; rfl
       refine pu_ (i:=40) (N:=some 45) (v:=undef) (a':=?_) rfl rfl (by kernel_rfl) (fun _ _ _ h => h) (Or.inr ⟨by rfl,rfl⟩) ?_ ?_
       rotate_left; simp only [Act.put,sA_,sB_,sC_,i64_w,i32_w]; rfl
       as_aux_lemma =>
        refine pure_ (i:=41) (N:=some 46) (v:=?_) (a':=?_) #[t_,t_,t_,t_,t_,t_,t_,t_,t_,t_,t_,t_,t_,t_,t_,t_,t_,t_,t_,t_,t_,t_,t_,t_,t_,t_,t_,t_,t_,t_,t_,t_,t_,t_,t_,t_,t_,t_,t_,t_,t_,t_,f_,f_,f_,f_,f_,f_,f_,f_,f_,f_,f_,f_,f_,f_,f_,f_,f_,f_,f_,f_,f_,f_,f_,f_,f_] rfl rfl (by kernel_rfl) (fun _ _ _ h => h) (Or.inl ⟨by rfl,?_⟩) ?_ ?_
        rotate_left; intro w'; go_simp; with_reducible rfl; rotate_left; simp only [Act.put,sA_,sB_,sC_,i64_w,i32_w]; rfl
        refine pu_ (i:=42) (N:=some 47) (v:=?_) (a':=?_) rfl rfl (by kernel_rfl) (fun _ _ _ h => h) (Or.inl ⟨by rfl,?_⟩) ?_ ?_
        rotate_left; intro w'; go_simp; with_reducible rfl; rotate_left; simp only [Act.put,sA_,sB_,sC_,i64_w,i32_w]; rfl
        refine pu_ (i:=43) (N:=some 48) (v:=undef) (a':=?_) rfl rfl (by kernel_rfl) (fun _ _ _ h => h) (Or.inr ⟨by rfl,rfl⟩) ?_ ?_
        rotate_left; simp only [Act.put,sA_,sB_,sC_,i64_w,i32_w]; rfl
        refine pu_ (i:=44) (N:=some 49) (v:=undef) (a':=?_) rfl rfl (by kernel_rfl) (fun _ _ _ h => h) (Or.inr ⟨by rfl,rfl⟩) ?_ ?_
        rotate_left; simp only [Act.put,sA_,sB_,sC_,i64_w,i32_w]; rfl
        refine pu_ (i:=45) (N:=some 50) (v:=undef) (a':=?_) rfl rfl (by kernel_rfl) (fun _ _ _ h => h) (Or.inr ⟨by rfl,rfl⟩) ?_ ?_
        rotate_left; simp only [Act.put,sA_,sB_,sC_,i64_w,i32_w]; rfl
        refine pu_ (i:=46) (N:=some 51) (v:=?_) (a':=?_) rfl rfl (by kernel_rfl) (fun _ _ _ h => h) (Or.inl ⟨by rfl,?_⟩) ?_ ?_
        rotate_left; intro w'; go_simp; with_reducible rfl; rotate_left; simp only [Act.put,sA_,sB_,sC_,i64_w,i32_w]; rfl
        refine pu_ (i:=47) (N:=some 52) (v:=?_) (a':=?_) rfl rfl (by kernel_rfl) (fun _ _ _ h => h) (Or.inl ⟨by rfl,?_⟩) ?_ ?_
        rotate_left; intro w'; go_simp; with_reducible rfl; rotate_left; simp only [Act.put,sA_,sB_,sC_,i64_w,i32_w]; rfl
        refine pu_ (i:=48) (N:=some 53) (v:=undef) (a':=?_) rfl rfl (by kernel_rfl) (fun _ _ _ h => h) (Or.inr ⟨by rfl,rfl⟩) ?_ ?_
        rotate_left; simp only [Act.put,sA_,sB_,sC_,i64_w,i32_w]; rfl
        refine pu_ (i:=49) (N:=some 54) (v:=undef) (a':=?_) rfl rfl (by kernel_rfl) (fun _ _ _ h => h) (Or.inr ⟨by rfl,rfl⟩) ?_ ?_
        rotate_left; simp only [Act.put,sA_,sB_,sC_,i64_w,i32_w]; rfl
        refine pu_ (i:=50) (N:=some 55) (v:=undef) (a':=?_) rfl rfl (by kernel_rfl) (fun _ _ _ h => h) (Or.inr ⟨by rfl,rfl⟩) ?_ ?_
        rotate_left; simp only [Act.put,sA_,sB_,sC_,i64_w,i32_w]; rfl
        refine pu_ (i:=51) (N:=some 56) (v:=undef) (a':=?_) rfl rfl (by kernel_rfl) (fun _ _ _ h => h) (Or.inr ⟨by rfl,rfl⟩) ?_ ?_
        rotate_left; simp only [Act.put,sA_,sB_,sC_,i64_w,i32_w]; rfl
        refine pu_ (i:=52) (N:=some 57) (v:=undef) (a':=?_) rfl rfl (by kernel_rfl) (fun _ _ _ h => h) (Or.inr ⟨by rfl,rfl⟩) ?_ ?_
        rotate_left; simp only [Act.put,sA_,sB_,sC_,i64_w,i32_w]; rfl
        as_aux_lemma =>
         refine pure_ (i:=53) (N:=some 58) (v:=undef) (a':=?_) #[t_,t_,t_,t_,t_,t_,t_,t_,t_,t_,t_,t_,t_,t_,t_,t_,t_,t_,t_,t_,t_,t_,t_,t_,t_,t_,t_,t_,t_,t_,t_,t_,t_,t_,t_,t_,t_,t_,t_,t_,t_,t_,t_,t_,t_,t_,t_,t_,t_,t_,t_,t_,t_,t_,f_,f_,f_,f_,f_,f_,f_,f_,f_,f_,f_,f_,f_] rfl rfl (by kernel_rfl) (fun _ _ _ h => h) (Or.inr ⟨by rfl,rfl⟩) ?_ ?_
         rotate_left; simp only [Act.put,sA_,sB_,sC_,i64_w,i32_w]; rfl
         refine pu_ (i:=54) (N:=some 59) (v:=undef) (a':=?_) rfl rfl (by kernel_rfl) (fun _ _ _ h => h) (Or.inr ⟨by rfl,rfl⟩) ?_ ?_
         rotate_left; simp only [Act.put,sA_,sB_,sC_,i64_w,i32_w]; rfl
         refine pu_ (i:=55) (N:=some 60) (v:=undef) (a':=?_) rfl rfl (by kernel_rfl) (fun _ _ _ h => h) (Or.inr ⟨by rfl,rfl⟩) ?_ ?_
         rotate_left; simp only [Act.put,sA_,sB_,sC_,i64_w,i32_w]; rfl
         refine pu_ (i:=56) (N:=some 61) (v:=?_) (a':=?_) rfl rfl (by kernel_rfl) (fun _ _ _ h => h) (Or.inl ⟨by rfl,?_⟩) ?_ ?_
         rotate_left; intro w'; go_simp; with_reducible rfl; rotate_left; simp only [Act.put,sA_,sB_,sC_,i64_w,i32_w]; rfl
         refine pu_ (i:=57) (N:=some 62) (v:=?_) (a':=?_) rfl rfl (by kernel_rfl) (fun _ _ _ h => h) (Or.inl ⟨by rfl,?_⟩) ?_ ?_
         rotate_left; intro w'; go_simp; with_reducible rfl; rotate_left; simp only [Act.put,sA_,sB_,sC_,i64_w,i32_w]; rfl
         refine pu_ (i:=58) (N:=some 63) (v:=undef) (a':=?_) rfl rfl (by kernel_rfl) (fun _ _ _ h => h) (Or.inr ⟨by rfl,rfl⟩) ?_ ?_
         rotate_left; simp only [Act.put,sA_,sB_,sC_,i64_w,i32_w]; rfl
         refine pu_ (i:=59) (N:=some 64) (v:=undef) (a':=?_) rfl rfl (by kernel_rfl) (fun _ _ _ h => h) (Or.inr ⟨by rfl,rfl⟩) ?_ ?_
         rotate_left; simp only [Act.put,sA_,sB_,sC_,i64_w,i32_w]; rfl
         refine pu_ (i:=60) (N:=some 65) (v:=undef) (a':=?_) rfl rfl (by kernel_rfl) (fun _ _ _ h => h) (Or.inr ⟨by rfl,rfl⟩) ?_ ?_
         rotate_left; simp only [Act.put,sA_,sB_,sC_,i64_w,i32_w]; rfl
         refine pu_ (i:=61) (N:=some 66) (v:=?_) (a':=?_) rfl rfl (by kernel_rfl) (fun _ _ _ h => h) (Or.inl ⟨by rfl,?_⟩) ?_ ?_
         rotate_left; intro w'; go_simp; with_reducible rfl; rotate_left; simp only [Act.put,sA_,sB_,sC_,i64_w,i32_w]; rfl
         refine pu_ (i:=62) (N:=some 67) (v:=?_) (a':=?_) rfl rfl (by kernel_rfl) (fun _ _ _ h => h) (Or.inl ⟨by rfl,?_⟩) ?_ ?_
         rotate_left; intro w'; go_simp; with_reducible rfl; rotate_left; simp only [Act.put,sA_,sB_,sC_,i64_w,i32_w]; rfl
         refine pu_ (i:=63) (N:=some 68) (v:=undef) (a':=?_) rfl rfl (by kernel_rfl) (fun _ _ _ h => h) (Or.inr ⟨by rfl,rfl⟩) ?_ ?_
         rotate_left; simp only [Act.put,sA_,sB_,sC_,i64_w,i32_w]; rfl
         refine pu_ (i:=64) (N:=some 69) (v:=undef) (a':=?_) rfl rfl (by kernel_rfl) (fun _ _ _ h => h) (Or.inr ⟨by rfl,rfl⟩) ?_ ?_
         rotate_left; simp only [Act.put,sA_,sB_,sC_,i64_w,i32_w]; rfl
         as_aux_lemma =>
          refine pure_ (i:=65) (N:=some 70) (v:=undef) (a':=?_) #[t_,t_,t_,t_,t_,t_,t_,t_,t_,t_,t_,t_,t_,t_,t_,t_,t_,t_,t_,t_,t_,t_,t_,t_,t_,t_,t_,t_,t_,t_,t_,t_,t_,t_,t_,t_,t_,t_,t_,t_,t_,t_,t_,t_,t_,t_,t_,t_,t_,t_,t_,t_,t_,t_,t_,t_,t_,t_,t_,t_,t_,t_,t_,t_,t_,t_,f_] rfl rfl (by kernel_rfl) (fun _ _ _ h => h) (Or.inr ⟨by rfl,rfl⟩) ?_ ?_
          rotate_left; simp only [Act.put,sA_,sB_,sC_,i64_w,i32_w]; rfl
          refine pu_ (i:=66) (N:=some 71) (v:=?_) (a':=?_) rfl rfl (by kernel_rfl) (fun _ _ _ h => h) (Or.inl ⟨by rfl,?_⟩) ?_ ?_
          rotate_left; intro w'; go_simp; with_reducible rfl; rotate_left; simp only [Act.put,sA_,sB_,sC_,i64_w,i32_w]; rfl
          refine done_ (by kernel_rfl) ?_
          go_wp2_with fail
          go_ret
          exact ⟨rfl,((Fr.refl hok).al _).dr⟩
    refine pu_ (i:=30) (N:=some 35) (v:=?_) (a':=?_) rfl rfl (by kernel_rfl) (fun _ _ _ h => h) (Or.inl ⟨by rfl,?_⟩) ?_ ?_
    rotate_left; intro w'; go_simp; with_reducible rfl; rotate_left; simp only [Act.put,sA_,sB_,sC_,i64_w,i32_w]; rfl
    refine pu_ (i:=31) (N:=some 36) (v:=?_) (a':=?_) rfl rfl (by kernel_rfl) (fun _ _ _ h => h) (Or.inl ⟨by rfl,?_⟩) ?_ ?_
    rotate_left; intro w'; go_simp; with_reducible rfl; rotate_left; simp only [Act.put,sA_,sB_,sC_,i64_w,i32_w]; rfl
    refine pu_ (i:=32) (N:=some 37) (v:=?_) (a':=?_) rfl rfl (by kernel_rfl) (fun _ _ _ h => h) (Or.inl ⟨by rfl,?_⟩) ?_ ?_
    rotate_left; intro w'; go_simp; with_reducible rfl; rotate_left; simp only [Act.put,sA_,sB_,sC_,i64_w,i32_w]; rfl
    refine pu_ (i:=33) (N:=some 38) (v:=?_) (a':=?_) rfl rfl (by kernel_rfl) (fun _ _ _ h => h) (Or.inl ⟨by rfl,?_⟩) ?_ ?_
    rotate_left; intro w'; go_simp; with_reducible rfl; rotate_left; simp only [Act.put,sA_,sB_,sC_,i64_w,i32_w]; rfl
    as_aux_lemma =>
     refine pure_ (i:=35) (N:=some 40) (v:=?_) (a':=?_) #[t_,t_,t_,t_,t_,t_,t_,t_,t_,t_,t_,t_,t_,t_,t_,t_,t_,t_,t_,t_,t_,t_,t_,t_,t_,t_,t_,t_,t_,t_,t_,t_,t_,t_,f_,t_,f_,f_,f_,f_,f_,f_,f_,f_,f_,f_,f_,f_,f_,f_,f_,f_,f_,f_,f_,f_,f_,f_,f_,f_,f_,f_,f_,f_,f_,f_,f_] rfl rfl (by kernel_rfl) (fun _ _ _ h => h) (Or.inl ⟨by rfl,?_⟩) ?_ ?_
     rotate_left; intro w'; go_simp; with_reducible rfl; rotate_left; simp only [Act.put,sA_,sB_,sC_,i64_w,i32_w]; rfl
     refine pu_ (i:=36) (N:=some 41) (v:=?_) (a':=?_) rfl rfl (by kernel_rfl) (fun _ _ _ h => h) (Or.inl ⟨by rfl,?_⟩) ?_ ?_
     rotate_left; intro w'; go_simp; with_reducible rfl; rotate_left; simp only [Act.put,sA_,sB_,sC_,i64_w,i32_w]; rfl
     refine pu_ (i:=37) (N:=some 42) (v:=?_) (a':=?_) rfl rfl (by kernel_rfl) (fun _ _ _ h => h) (Or.inl ⟨by rfl,?_⟩) ?_ ?_
     rotate_left; intro w'; go_simp; with_reducible rfl; rotate_left; simp only [Act.put,sA_,sB_,sC_,i64_w,i32_w]; rfl
     refine tk_ (i:=34) (N:=some 39) (v:=?_) (a':=?_) rfl rfl (by kernel_rfl) (fun _ _ _ h => h) (Or.inl ⟨by rfl,?_⟩) hHeld ?_ ?_
     rotate_left; rintro w' ⟨s0,s1,s2,s3,s4,s5,s6,s7⟩; go_simp; with_reducible rfl; rotate_left; simp only [Act.put,sA_,sB_,sC_,i64_w,i32_w]; rfl
     refine tk_ (i:=38) (N:=some 43) (v:=?_) (a':=?_) rfl rfl (by kernel_rfl) (fun _ _ _ h => h) (Or.inl ⟨by rfl,?_⟩) hHeld ?_ ?_
     rotate_left; rintro w' ⟨s0,s1,s2,s3,s4,s5,s6,s7⟩; go_simp; with_reducible rfl; rotate_left; simp only [Act.put,sA_,sB_,sC_,i64_w,i32_w]; rfl
     refine pu_ (i:=39) (N:=some 44) (v:=?_) (a':=?_) rfl rfl (by kernel_rfl) (fun _ _ _ h => h) (Or.inl ⟨by rfl,?_⟩) ?_ ?_
     rotate_left; intro w'; go_simp; with_reducible rfl; rotate_left; simp only [Act.put,sA_,sB_,sC_,i64_w,i32_w]; rfl
     rcases Bool.eq_false_or_eq_true (decide ((P.sites.length : Int) ≤ mi)) with g40 | g40
     · as_aux_lemma =>
        refine pu_ (i:=40) (N:=some 45) (v:=?_) (a':=?_) rfl rfl (by kernel_rfl) (fun _ _ _ h => h) (Or.inl ⟨by rfl,?_⟩) ?_ ?_
        rotate_left; intro w'; go_simp; with_reducible rfl; rotate_left; simp only [Act.put,sA_,sB_,sC_,i64_w,i32_w]; rfl
        refine pu_ (i:=41) (N:=some 46) (v:=?_) (a':=?_) rfl rfl (by kernel_rfl) (fun _ _ _ h => h) (Or.inl ⟨by rfl,?_⟩) ?_ ?_
        rotate_left; intro w'; go_simp; with_reducible rfl; rotate_left; simp only [Act.put,sA_,sB_,sC_,i64_w,i32_w]; rfl
        refine pu_ (i:=42) (N:=some 47) (v:=?_) (a':=?_) rfl rfl (by kernel_rfl) (fun _ _ _ h => h) (Or.inl ⟨by rfl,?_⟩) ?_ ?_
        rotate_left; intro w'; go_simp; with_reducible rfl; rotate_left; simp only [Act.put,sA_,sB_,sC_,i64_w,i32_w]; rfl
        refine pu_ (i:=43) (N:=some 48) (v:=undef) (a':=?_) rfl rfl (by kernel_rfl) (fun _ _ _ h => h) (Or.inr ⟨by rfl,rfl⟩) ?_ ?_
        rotate_left; simp only [Act.put,sA_,sB_,sC_,i64_w,i32_w]; rfl
        refine pu_ (i:=44) (N:=some 49) (v:=undef) (a':=?_) rfl rfl (by kernel_rfl) (fun _ _ _ h => h) (Or.inr ⟨by rfl,rfl⟩) ?_ ?_
        rotate_left; simp only [Act.put,sA_,sB_,sC_,i64_w,i32_w]; rfl
        refine pu_ (i:=45) (N:=some 50) (v:=undef) (a':=?_) rfl rfl (by kernel_rfl) (fun _ _ _ h => h) (Or.inr ⟨by rfl,rfl⟩) ?_ ?_
        rotate_left; simp only [Act.put,sA_,sB_,sC_,i64_w,i32_w]; rfl
        refine pu_ (i:=46) (N:=some 51) (v:=?_) (a':=?_) rfl rfl (by kernel_rfl) (fun _ _ _ h => h) (Or.inl ⟨by rfl,?_⟩) ?_ ?_
        rotate_left; intro w'; go_simp; with_reducible rfl; rotate_left; simp only [Act.put,sA_,sB_,sC_,i64_w,i32_w]; rfl
        refine pu_ (i:=47) (N:=some 52) (v:=?_) (a':=?_) rfl rfl (by kernel_rfl) (fun _ _ _ h => h) (Or.inl ⟨by rfl,?_⟩) ?_ ?_
        rotate_left; intro w'; go_simp; with_reducible rfl; rotate_left; simp only [Act.put,sA_,sB_,sC_,i64_w,i32_w]; rfl
        refine pu_ (i:=48) (N:=some 53) (v:=undef) (a':=?_) rfl rfl (by kernel_rfl) (fun _ _ _ h => h) (Or.inr ⟨by rfl,rfl⟩) ?_ ?_
        rotate_left; simp only [Act.put,sA_,sB_,sC_,i64_w,i32_w]; rfl
        refine pu_ (i:=49) (N:=some 54) (v:=undef) (a':=?_) rfl rfl (by kernel_rfl) (fun _ _ _ h => h) (Or.inr ⟨by rfl,rfl⟩) ?_ ?_
        rotate_left; simp only [Act.put,sA_,sB_,sC_,i64_w,i32_w]; rfl
        refine pu_ (i:=50) (N:=some 55) (v:=undef) (a':=?_) rfl rfl (by kernel_rfl) (fun _ _ _ h => h) (Or.inr ⟨by rfl,rfl⟩) ?_ ?_
        rotate_left; simp only [Act.put,sA_,sB_,sC_,i64_w,i32_w]; rfl
        as_aux_lemma =>
         refine pure_ (i:=51) (N:=some 56) (v:=undef) (a':=?_) #[t_,t_,t_,t_,t_,t_,t_,t_,t_,t_,t_,t_,t_,t_,t_,t_,t_,t_,t_,t_,t_,t_,t_,t_,t_,t_,t_,t_,t_,t_,t_,t_,t_,t_,t_,t_,t_,t_,t_,t_,t_,t_,t_,t_,t_,t_,t_,t_,t_,t_,t_,t_,f_,f_,f_,f_,f_,f_,f_,f_,f_,f_,f_,f_,f_,f_,f_] rfl rfl (by kernel_rfl) (fun _ _ _ h => h) (Or.inr ⟨by rfl,rfl⟩) ?_ ?_
         rotate_left; simp only [Act.put,sA_,sB_,sC_,i64_w,i32_w]; rfl
         refine pu_ (i:=52) (N:=some 57) (v:=undef) (a':=?_) rfl rfl (by kernel_rfl) (fun _ _ _ h => h) (Or.inr ⟨by rfl,rfl⟩) ?_ ?_
         rotate_left; simp only [Act.put,sA_,sB_,sC_,i64_w,i32_w]; rfl
         refine pu_ (i:=53) (N:=some 58) (v:=undef) (a':=?_) rfl rfl (by kernel_rfl) (fun _ _ _ h => h) (Or.inr ⟨by rfl,rfl⟩) ?_ ?_
         rotate_left; simp only [Act.put,sA_,sB_,sC_,i64_w,i32_w]; rfl
         refine pu_ (i:=54) (N:=some 59) (v:=undef) (a':=?_) rfl rfl (by kernel_rfl) (fun _ _ _ h => h) (Or.inr ⟨by rfl,rfl⟩) ?_ ?_
         rotate_left; simp only [Act.put,sA_,sB_,sC_,i64_w,i32_w]; rfl
         refine pu_ (i:=55) (N:=some 60) (v:=undef) (a':=?_) rfl rfl (by kernel_rfl) (fun _ _ _ h => h) (Or.inr ⟨by rfl,rfl⟩) ?_ ?_
         rotate_left; simp only [Act.put,sA_,sB_,sC_,i64_w,i32_w]; rfl
         refine pu_ (i:=56) (N:=some 61) (v:=?_) (a':=?_) rfl rfl (by kernel_rfl) (fun _ _ _ h => h) (Or.inl ⟨by rfl,?_⟩) ?_ ?_
         rotate_left; intro w'; go_simp; with_reducible rfl; rotate_left; simp only [Act.put,sA_,sB_,sC_,i64_w,i32_w]; rfl
         refine pu_ (i:=57) (N:=some 62) (v:=?_) (a':=?_) rfl rfl (by kernel_rfl) (fun _ _ _ h => h) (Or.inl ⟨by rfl,?_⟩) ?_ ?_
         rotate_left; intro w'; go_simp; with_reducible rfl; rotate_left; simp only [Act.put,sA_,sB_,sC_,i64_w,i32_w]; rfl
         refine pu_ (i:=58) (N:=some 63) (v:=undef) (a':=?_) rfl rfl (by kernel_rfl) (fun _ _ _ h => h) (Or.inr ⟨by rfl,rfl⟩) ?_ ?_
         rotate_left; simp only [Act.put,sA_,sB_,sC_,i64_w,i32_w]; rfl
         refine pu_ (i:=59) (N:=some 64) (v:=undef) (a':=?_) rfl rfl (by kernel_rfl) (fun _ _ _ h => h) (Or.inr ⟨by rfl,rfl⟩) ?_ ?_
         rotate_left; simp only [Act.put,sA_,sB_,sC_,i64_w,i32_w]; rfl
         refine pu_ (i:=60) (N:=some 65) (v:=undef) (a':=?_) rfl rfl (by kernel_rfl) (fun _ _ _ h => h) (Or.inr ⟨by rfl,rfl⟩) ?_ ?_
         rotate_left; simp only [Act.put,sA_,sB_,sC_,i64_w,i32_w]; rfl
         refine pu_ (i:=61) (N:=some 66) (v:=?_) (a':=?_) rfl rfl (by kernel_rfl) (fun _ _ _ h => h) (Or.inl ⟨by rfl,?_⟩) ?_ ?_
         rotate_left; intro w'; go_simp; with_reducible rfl; rotate_left; simp only [Act.put,sA_,sB_,sC_,i64_w,i32_w]; rfl
         refine pu_ (i:=62) (N:=some 67) (v:=?_) (a':=?_) rfl rfl (by kernel_rfl) (fun _ _ _ h => h) (Or.inl ⟨by rfl,?_⟩) ?_ ?_
         rotate_left; intro w'; go_simp; with_reducible rfl; rotate_left; simp only [Act.put,sA_,sB_,sC_,i64_w,i32_w]; rfl
         as_aux_lemma =>
          refine pure_ (i:=63) (N:=some 68) (v:=undef) (a':=?_) #[t_,t_,t_,t_,t_,t_,t_,t_,t_,t_,t_,t_,t_,t_,t_,t_,t_,t_,t_,t_,t_,t_,t_,t_,t_,t_,t_,t_,t_,t_,t_,t_,t_,t_,t_,t_,t_,t_,t_,t_,t_,t_,t_,t_,t_,t_,t_,t_,t_,t_,t_,t_,t_,t_,t_,t_,t_,t_,t_,t_,t_,t_,t_,t_,f_,f_,f_] rfl rfl (by kernel_rfl) (fun _ _ _ h => h) (Or.inr ⟨by rfl,rfl⟩) ?_ ?_
          rotate_left; simp only [Act.put,sA_,sB_,sC_,i64_w,i32_w]; rfl
          refine pu_ (i:=64) (N:=some 69) (v:=undef) (a':=?_) rfl rfl (by kernel_rfl) (fun _ _ _ h => h) (Or.inr ⟨by rfl,rfl⟩) ?_ ?_
          rotate_left; simp only [Act.put,sA_,sB_,sC_,i64_w,i32_w]; rfl
          refine pu_ (i:=65) (N:=some 70) (v:=undef) (a':=?_) rfl rfl (by kernel_rfl) (fun _ _ _ h => h) (Or.inr ⟨by rfl,rfl⟩) ?_ ?_
          rotate_left; simp only [Act.put,sA_,sB_,sC_,i64_w,i32_w]; rfl
          refine pu_ (i:=66) (N:=some 71) (v:=?_) (a':=?_) rfl rfl (by kernel_rfl) (fun _ _ _ h => h) (Or.inl ⟨by rfl,?_⟩) ?_ ?_
          rotate_left; intro w'; go_simp; with_reducible rfl; rotate_left; simp only [Act.put,sA_,sB_,sC_,i64_w,i32_w]; rfl
          refine done_ (by kernel_rfl) ?_
          go_wp2_with fail
          go_ret
          exact ⟨rfl,((Fr.refl hok).al _).dr⟩
     refine pu_ (i:=40) (N:=some 45) (v:=?_) (a':=?_) rfl rfl (by kernel_rfl) (fun _ _ _ h => h) (Or.inl ⟨by rfl,?_⟩) ?_ ?_
     rotate_left; intro w'; go_simp; with_reducible rfl; rotate_left; simp only [Act.put,sA_,sB_,sC_,i64_w,i32_w]; rfl
     refine pu_ (i:=41) (N:=some 46) (v:=?_) (a':=?_) rfl rfl (by kernel_rfl) (fun _ _ _ h => h) (Or.inl ⟨by rfl,?_⟩) ?_ ?_
     rotate_left; intro w'; go_simp; with_reducible rfl; rotate_left; simp only [Act.put,sA_,sB_,sC_,i64_w,i32_w]; rfl
     refine pu_ (i:=42) (N:=some 47) (v:=?_) (a':=?_) rfl rfl (by kernel_rfl) (fun _ _ _ h => h) (Or.inl ⟨by rfl,?_⟩) ?_ ?_
     rotate_left; intro w'; go_simp; with_reducible rfl; rotate_left; simp only [Act.put,sA_,sB_,sC_,i64_w,i32_w]; rfl
     refine pu_ (i:=43) (N:=some 48) (v:=?_) (a':=?_) rfl rfl (by kernel_rfl) (fun _ _ _ h => h) (Or.inl ⟨by rfl,?_⟩) ?_ ?_
     rotate_left; intro w'; go_simp; with_reducible rfl; rotate_left; simp only [Act.put,sA_,sB_,sC_,i64_w,i32_w]; rfl
     refine tk_ (i:=44) (N:=some 49) (v:=?_) (a':=?_) rfl rfl (by kernel_rfl) (fun _ _ _ h => h) (Or.inl ⟨by rfl,?_⟩) hHeld ?_ ?_
     rotate_left; rintro w' ⟨s0,s1,s2,s3,s4,s5,s6,s7⟩; go_simp; with_reducible rfl; rotate_left; simp only [Act.put,sA_,sB_,sC_,i64_w,i32_w]; rfl
     rcases Bool.eq_false_or_eq_true (decide (mv < 0)) with g45 | g45
     · as_aux_lemma =>
        refine pu_ (i:=45) (N:=some 50) (v:=?_) (a':=?_) rfl rfl (by kernel_rfl) (fun _ _ _ h => h) (Or.inl ⟨by rfl,?_⟩) ?_ ?_
        rotate_left; intro w'; go_simp; with_reducible rfl; rotate_left; simp only [Act.put,sA_,sB_,sC_,i64_w,i32_w]; rfl
        refine pu_ (i:=46) (N:=some 51) (v:=?_) (a':=?_) rfl rfl (by kernel_rfl) (fun _ _ _ h => h) (Or.inl ⟨by rfl,?_⟩) ?_ ?_
        rotate_left; intro w'; go_simp; with_reducible rfl; rotate_left; simp only [Act.put,sA_,sB_,sC_,i64_w,i32_w]; rfl
        refine pu_ (i:=47) (N:=some 52) (v:=?_) (a':=?_) rfl rfl (by kernel_rfl) (fun _ _ _ h => h) (Or.inl ⟨by rfl,?_⟩) ?_ ?_
        rotate_left; intro w'; go_simp; with_reducible rfl; rotate_left; simp only [Act.put,sA_,sB_,sC_,i64_w,i32_w]; rfl
        refine pu_ (i:=48) (N:=some 53) (v:=undef) (a':=?_) rfl rfl (by kernel_rfl) (fun _ _ _ h => h) (Or.inr ⟨by rfl,rfl⟩) ?_ ?_
        rotate_left; simp only [Act.put,sA_,sB_,sC_,i64_w,i32_w]; rfl
        refine pu_ (i:=49) (N:=some 54) (v:=undef) (a':=?_) rfl rfl (by kernel_rfl) (fun _ _ _ h => h) (Or.inr ⟨by rfl,rfl⟩) ?_ ?_
        rotate_left; simp only [Act.put,sA_,sB_,sC_,i64_w,i32_w]; rfl
        refine pu_ (i:=50) (N:=some 55) (v:=undef) (a':=?_) rfl rfl (by kernel_rfl) (fun _ _ _ h => h) (Or.inr ⟨by rfl,rfl⟩) ?_ ?_
        rotate_left; simp only [Act.put,sA_,sB_,sC_,i64_w,i32_w]; rfl
        refine pu_ (i:=51) (N:=some 56) (v:=undef) (a':=?_) rfl rfl (by kernel_rfl) (fun _ _ _ h => h) (Or.inr ⟨by rfl,rfl⟩) ?_ ?_
        rotate_left; simp only [Act.put,sA_,sB_,sC_,i64_w,i32_w]; rfl
        refine pu_ (i:=52) (N:=some 57) (v:=undef) (a':=?_) rfl rfl (by kernel_rfl) (fun _ _ _ h => h) (Or.inr ⟨by rfl,rfl⟩) ?_ ?_
        rotate_left; simp only [Act.put,sA_,sB_,sC_,i64_w,i32_w]; rfl
        refine pu_ (i:=53) (N:=some 58) (v:=undef) (a':=?_) rfl rfl (by kernel_rfl) (fun _ _ _ h => h) (Or.inr ⟨by rfl,rfl⟩) ?_ ?_
        rotate_left; simp only [Act.put,sA_,sB_,sC_,i64_w,i32_w]; rfl
        refine pu_ (i:=54) (N:=some 59) (v:=undef) (a':=?_) rfl rfl (by kernel_rfl) (fun _ _ _ h => h) (Or.inr ⟨by rfl,rfl⟩) ?_ ?_
        rotate_left; simp only [Act.put,sA_,sB_,sC_,i64_w,i32_w]; rfl
        refine pu_ (i:=55) (N:=some 60) (v:=undef) (a':=?_) rfl rfl (by kernel_rfl) (fun _ _ _ h => h) (Or.inr ⟨by rfl,rfl⟩) ?_ ?_
        rotate_left; simp only [Act.put,sA_,sB_,sC_,i64_w,i32_w]; rfl
        as_aux_lemma =>
         refine pure_ (i:=56) (N:=some 61) (v:=?_) (a':=?_) #[t_,t_,t_,t_,t_,t_,t_,t_,t_,t_,t_,t_,t_,t_,t_,t_,t_,t_,t_,t_,t_,t_,t_,t_,t_,t_,t_,t_,t_,t_,t_,t_,t_,t_,t_,t_,t_,t_,t_,t_,t_,t_,t_,t_,t_,t_,t_,t_,t_,t_,t_,t_,t_,t_,t_,t_,t_,f_,f_,f_,f_,f_,f_,f_,f_,f_,f_] rfl rfl (by kernel_rfl) (fun _ _ _ h => h) (Or.inl ⟨by rfl,?_⟩) ?_ ?_
         rotate_left; intro w'; go_simp; with_reducible rfl; rotate_left; simp only [Act.put,sA_,sB_,sC_,i64_w,i32_w]; rfl
         refine pu_ (i:=57) (N:=some 62) (v:=?_) (a':=?_) rfl rfl (by kernel_rfl) (fun _ _ _ h => h) (Or.inl ⟨by rfl,?_⟩) ?_ ?_
         rotate_left; intro w'; go_simp; with_reducible rfl; rotate_left; simp only [Act.put,sA_,sB_,sC_,i64_w,i32_w]; rfl
         refine pu_ (i:=58) (N:=some 63) (v:=undef) (a':=?_) rfl rfl (by kernel_rfl) (fun _ _ _ h => h) (Or.inr ⟨by rfl,rfl⟩) ?_ ?_
         rotate_left; simp only [Act.put,sA_,sB_,sC_,i64_w,i32_w]; rfl
         refine pu_ (i:=59) (N:=some 64) (v:=undef) (a':=?_) rfl rfl (by kernel_rfl) (fun _ _ _ h => h) (Or.inr ⟨by rfl,rfl⟩) ?_ ?_
         rotate_left; simp only [Act.put,sA_,sB_,sC_,i64_w,i32_w]; rfl
         refine pu_ (i:=60) (N:=some 65) (v:=undef) (a':=?_) rfl rfl (by kernel_rfl) (fun _ _ _ h => h) (Or.inr ⟨by rfl,rfl⟩) ?_ ?_
         rotate_left; simp only [Act.put,sA_,sB_,sC_,i64_w,i32_w]; rfl
         refine pu_ (i:=61) (N:=some 66) (v:=?_) (a':=?_) rfl rfl (by kernel_rfl) (fun _ _ _ h => h) (Or.inl ⟨by rfl,?_⟩) ?_ ?_
         rotate_left; intro w'; go_simp; with_reducible rfl; rotate_left; simp only [Act.put,sA_,sB_,sC_,i64_w,i32_w]; rfl
         refine pu_ (i:=62) (N:=some 67) (v:=?_) (a':=?_) rfl rfl (by kernel_rfl) (fun _ _ _ h => h) (Or.inl ⟨by rfl,?_⟩) ?_ ?_
         rotate_left; intro w'; go_simp; with_reducible rfl; rotate_left; simp only [Act.put,sA_,sB_,sC_,i64_w,i32_w]; rfl
         refine pu_ (i:=63) (N:=some 68) (v:=undef) (a':=?_) rfl rfl (by kernel_rfl) (fun _ _ _ h => h) (Or.inr ⟨by rfl,rfl⟩) ?_ ?_
         rotate_left; simp only [Act.put,sA_,sB_,sC_,i64_w,i32_w]; rfl
         refine pu_ (i:=64) (N:=some 69) (v:=undef) (a':=?_) rfl rfl (by kernel_rfl) (fun _ _ _ h => h) (Or.inr ⟨by rfl,rfl⟩) ?_ ?_
         rotate_left; simp only [Act.put,sA_,sB_,sC_,i64_w,i32_w]; rfl
         refine pu_ (i:=65) (N:=some 70) (v:=undef) (a':=?_) rfl rfl (by kernel_rfl) (fun _ _ _ h => h) (Or.inr ⟨by rfl,rfl⟩) ?_ ?_
         rotate_left; simp only [Act.put,sA_,sB_,sC_,i64_w,i32_w]; rfl
         refine pu_ (i:=66) (N:=some 71) (v:=?_) (a':=?_) rfl rfl (by kernel_rfl) (fun _ _ _ h => h) (Or.inl ⟨by rfl,?_⟩) ?_ ?_
         rotate_left; intro w'; go_simp; with_reducible rfl; rotate_left; simp only [Act.put,sA_,sB_,sC_,i64_w,i32_w]; rfl
         refine done_ (by kernel_rfl) ?_
         go_wp2_with fail
         go_ret
         exact ⟨rfl,((Fr.refl hok).al _).dr⟩
     refine pu_ (i:=45) (N:=some 50) (v:=?_) (a':=?_) rfl rfl (by kernel_rfl) (fun _ _ _ h => h) (Or.inl ⟨by rfl,?_⟩) ?_ ?_
     rotate_left; intro w'; go_simp; with_reducible rfl; rotate_left; simp only [Act.put,sA_,sB_,sC_,i64_w,i32_w]; rfl
     as_aux_lemma =>
      refine pure_ (i:=46) (N:=some 51) (v:=?_) (a':=?_) #[t_,t_,t_,t_,t_,t_,t_,t_,t_,t_,t_,t_,t_,t_,t_,t_,t_,t_,t_,t_,t_,t_,t_,t_,t_,t_,t_,t_,t_,t_,t_,t_,t_,t_,t_,t_,t_,t_,t_,t_,t_,t_,t_,t_,t_,t_,t_,f_,f_,f_,f_,f_,f_,f_,f_,f_,f_,f_,f_,f_,f_,f_,f_,f_,f_,f_,f_] rfl rfl (by kernel_rfl) (fun _ _ _ h => h) (Or.inl ⟨by rfl,?_⟩) ?_ ?_
      rotate_left; intro w'; go_simp; with_reducible rfl; rotate_left; simp only [Act.put,sA_,sB_,sC_,i64_w,i32_w]; rfl
      refine pu_ (i:=47) (N:=some 52) (v:=?_) (a':=?_) rfl rfl (by kernel_rfl) (fun _ _ _ h => h) (Or.inl ⟨by rfl,?_⟩) ?_ ?_
      rotate_left; intro w'; go_simp; with_reducible rfl; rotate_left; simp only [Act.put,sA_,sB_,sC_,i64_w,i32_w]; rfl
      refine pu_ (i:=48) (N:=some 53) (v:=?_) (a':=?_) rfl rfl (by kernel_rfl) (fun _ _ _ h => h) (Or.inl ⟨by rfl,?_⟩) ?_ ?_
      rotate_left; intro w'; go_simp; with_reducible rfl; rotate_left; simp only [Act.put,sA_,sB_,sC_,i64_w,i32_w]; rfl
      refine tk_ (i:=49) (N:=some 54) (v:=?_) (a':=?_) rfl rfl (by kernel_rfl) (fun _ _ _ h => h) (Or.inl ⟨by rfl,?_⟩) hHeld ?_ ?_
      rotate_left; rintro w' ⟨s0,s1,s2,s3,s4,s5,s6,s7⟩; go_simp; with_reducible rfl; rotate_left; simp only [Act.put,sA_,sB_,sC_,i64_w,i32_w]; rfl
      rcases Bool.eq_false_or_eq_true (decide (0 < mv)) with g50 | g50
      · as_aux_lemma =>
         refine pu_ (i:=50) (N:=some 55) (v:=?_) (a':=?_) rfl rfl (by kernel_rfl) (fun _ _ _ h => h) (Or.inl ⟨by rfl,?_⟩) ?_ ?_
         rotate_left; intro w'; go_simp; with_reducible rfl; rotate_left; simp only [Act.put,sA_,sB_,sC_,i64_w,i32_w]; rfl
         refine pu_ (i:=51) (N:=some 56) (v:=?_) (a':=?_) rfl rfl (by kernel_rfl) (fun _ _ _ h => h) (Or.inl ⟨by rfl,?_⟩) ?_ ?_
         rotate_left; intro w'; go_simp; with_reducible rfl; rotate_left; simp only [Act.put,sA_,sB_,sC_,i64_w,i32_w]; rfl
         refine pu_ (i:=52) (N:=some 57) (v:=?_) (a':=?_) rfl rfl (by kernel_rfl) (fun _ _ _ h => h) (Or.inl ⟨by rfl,?_⟩) ?_ ?_
         rotate_left; intro w'; go_simp; with_reducible rfl; rotate_left; simp only [Act.put,sA_,sB_,sC_,i64_w,i32_w]; rfl
         refine tk_ (i:=53) (N:=some 58) (v:=?_) (a':=?_) rfl rfl (by kernel_rfl) (fun _ _ _ h => h) (Or.inl ⟨by rfl,?_⟩) hHeld ?_ ?_
         rotate_left; rintro w' ⟨s0,s1,s2,s3,s4,s5,s6,s7⟩; go_simp; with_reducible rfl; rotate_left; simp only [Act.put,sA_,sB_,sC_,i64_w,i32_w]; rfl
         rcases Bool.eq_false_or_eq_true ((mk != 1)) with g54 | g54
         · as_aux_lemma =>
            refine pu_ (i:=54) (N:=some 59) (v:=?_) (a':=?_) rfl rfl (by kernel_rfl) (fun _ _ _ h => h) (Or.inl ⟨by rfl,?_⟩) ?_ ?_
            rotate_left; intro w'; go_simp; with_reducible rfl; rotate_left; simp only [Act.put,sA_,sB_,sC_,i64_w,i32_w]; rfl
            refine pu_ (i:=55) (N:=some 60) (v:=?_) (a':=?_) rfl rfl (by kernel_rfl) (fun _ _ _ h => h) (Or.inl ⟨by rfl,?_⟩) ?_ ?_
            rotate_left; intro w'; go_simp; with_reducible rfl; rotate_left; simp only [Act.put,sA_,sB_,sC_,i64_w,i32_w]; rfl
            refine pu_ (i:=56) (N:=some 61) (v:=?_) (a':=?_) rfl rfl (by kernel_rfl) (fun _ _ _ h => h) (Or.inl ⟨by rfl,?_⟩) ?_ ?_
            rotate_left; intro w'; go_simp; with_reducible rfl; rotate_left; simp only [Act.put,sA_,sB_,sC_,i64_w,i32_w]; rfl
            refine pu_ (i:=57) (N:=some 62) (v:=?_) (a':=?_) rfl rfl (by kernel_rfl) (fun _ _ _ h => h) (Or.inl ⟨by rfl,?_⟩) ?_ ?_
            rotate_left; intro w'; go_simp; with_reducible rfl; rotate_left; simp only [Act.put,sA_,sB_,sC_,i64_w,i32_w]; rfl
            refine pu_ (i:=58) (N:=some 63) (v:=undef) (a':=?_) rfl rfl (by kernel_rfl) (fun _ _ _ h => h) (Or.inr ⟨by rfl,rfl⟩) ?_ ?_
            rotate_left; simp only [Act.put,sA_,sB_,sC_,i64_w,i32_w]; rfl
            refine pu_ (i:=59) (N:=some 64) (v:=undef) (a':=?_) rfl rfl (by kernel_rfl) (fun _ _ _ h => h) (Or.inr ⟨by rfl,rfl⟩) ?_ ?_
            rotate_left; simp only [Act.put,sA_,sB_,sC_,i64_w,i32_w]; rfl
            refine pu_ (i:=60) (N:=some 65) (v:=undef) (a':=?_) rfl rfl (by kernel_rfl) (fun _ _ _ h => h) (Or.inr ⟨by rfl,rfl⟩) ?_ ?_
            rotate_left; simp only [Act.put,sA_,sB_,sC_,i64_w,i32_w]; rfl
            refine pu_ (i:=61) (N:=some 66) (v:=?_) (a':=?_) rfl rfl (by kernel_rfl) (fun _ _ _ h => h) (Or.inl ⟨by rfl,?_⟩) ?_ ?_
            rotate_left; intro w'; go_simp; with_reducible rfl; rotate_left; simp only [Act.put,sA_,sB_,sC_,i64_w,i32_w]; rfl
            refine pu_ (i:=62) (N:=some 67) (v:=?_) (a':=?_) rfl rfl (by kernel_rfl) (fun _ _ _ h => h) (Or.inl ⟨by rfl,?_⟩) ?_ ?_
            rotate_left; intro w'; go_simp; with_reducible rfl; rotate_left; simp only [Act.put,sA_,sB_,sC_,i64_w,i32_w]; rfl
            refine pu_ (i:=63) (N:=some 68) (v:=undef) (a':=?_) rfl rfl (by kernel_rfl) (fun _ _ _ h => h) (Or.inr ⟨by rfl,rfl⟩) ?_ ?_
            rotate_left; simp only [Act.put,sA_,sB_,sC_,i64_w,i32_w]; rfl
            refine pu_ (i:=64) (N:=some 69) (v:=undef) (a':=?_) rfl rfl (by kernel_rfl) (fun _ _ _ h => h) (Or.inr ⟨by rfl,rfl⟩) ?_ ?_
            rotate_left; simp only [Act.put,sA_,sB_,sC_,i64_w,i32_w]; rfl
            as_aux_lemma =>
             refine pure_ (i:=65) (N:=some 70) (v:=undef) (a':=?_) #[t_,t_,t_,t_,t_,t_,t_,t_,t_,t_,t_,t_,t_,t_,t_,t_,t_,t_,t_,t_,t_,t_,t_,t_,t_,t_,t_,t_,t_,t_,t_,t_,t_,t_,t_,t_,t_,t_,t_,t_,t_,t_,t_,t_,t_,t_,t_,t_,t_,t_,t_,t_,t_,t_,t_,t_,t_,t_,t_,t_,t_,t_,t_,t_,t_,t_,f_] rfl rfl (by kernel_rfl) (fun _ _ _ h => h) (Or.inr ⟨by rfl,rfl⟩) ?_ ?_
             rotate_left; simp only [Act.put,sA_,sB_,sC_,i64_w,i32_w]; rfl
             refine pu_ (i:=66) (N:=some 71) (v:=?_) (a':=?_) rfl rfl (by kernel_rfl) (fun _ _ _ h => h) (Or.inl ⟨by rfl,?_⟩) ?_ ?_
             rotate_left; intro w'; go_simp; with_reducible rfl; rotate_left; simp only [Act.put,sA_,sB_,sC_,i64_w,i32_w]; rfl
             refine done_ (by kernel_rfl) ?_
             go_wp2_with fail
             go_ret
             exact ⟨rfl,((Fr.refl hok).al _).dr⟩
         refine pu_ (i:=54) (N:=some 59) (v:=?_) (a':=?_) rfl rfl (by kernel_rfl) (fun _ _ _ h => h) (Or.inl ⟨by rfl,?_⟩) ?_ ?_
         rotate_left; intro w'; go_simp; with_reducible rfl; rotate_left; simp only [Act.put,sA_,sB_,sC_,i64_w,i32_w]; rfl
         refine pu_ (i:=55) (N:=some 60) (v:=?_) (a':=?_) rfl rfl (by kernel_rfl) (fun _ _ _ h => h) (Or.inl ⟨by rfl,?_⟩) ?_ ?_
         rotate_left; intro w'; go_simp; with_reducible rfl; rotate_left; simp only [Act.put,sA_,sB_,sC_,i64_w,i32_w]; rfl
         refine pu_ (i:=56) (N:=some 61) (v:=?_) (a':=?_) rfl rfl (by kernel_rfl) (fun _ _ _ h => h) (Or.inl ⟨by rfl,?_⟩) ?_ ?_
         rotate_left; intro w'; go_simp; with_reducible rfl; rotate_left; simp only [Act.put,sA_,sB_,sC_,i64_w,i32_w]; rfl
         refine pu_ (i:=57) (N:=some 62) (v:=?_) (a':=?_) rfl rfl (by kernel_rfl) (fun _ _ _ h => h) (Or.inl ⟨by rfl,?_⟩) ?_ ?_
         rotate_left; intro w'; go_simp; with_reducible rfl; rotate_left; simp only [Act.put,sA_,sB_,sC_,i64_w,i32_w]; rfl
         refine pu_ (i:=58) (N:=some 63) (v:=?_) (a':=?_) rfl rfl (by kernel_rfl) (fun _ _ _ h => h) (Or.inl ⟨by rfl,?_⟩) ?_ ?_
         rotate_left; intro w'; go_simp; with_reducible rfl; rotate_left; simp only [Act.put,sA_,sB_,sC_,i64_w,i32_w]; rfl
         refine tk_ (i:=59) (N:=some 64) (v:=?_) (a':=?_) rfl rfl (by kernel_rfl) (fun _ _ _ h => h) (Or.inl ⟨by rfl,?_⟩) hHeld ?_ ?_
         rotate_left; rintro w' ⟨s0,s1,s2,s3,s4,s5,s6,s7⟩; go_simp; with_reducible rfl; rotate_left; simp only [Act.put,sA_,sB_,sC_,i64_w,i32_w]; rfl
         rcases Bool.eq_false_or_eq_true (decide (ms < 0)) with g60 | g60
         · as_aux_lemma =>
            refine pu_ (i:=60) (N:=some 65) (v:=?_) (a':=?_) rfl rfl (by kernel_rfl) (fun _ _ _ h => h) (Or.inl ⟨by rfl,?_⟩) ?_ ?_
            rotate_left; intro w'; go_simp; with_reducible rfl; rotate_left; simp only [Act.put,sA_,sB_,sC_,i64_w,i32_w]; rfl
            refine pu_ (i:=61) (N:=some 66) (v:=?_) (a':=?_) rfl rfl (by kernel_rfl) (fun _ _ _ h => h) (Or.inl ⟨by rfl,?_⟩) ?_ ?_
            rotate_left; intro w'; go_simp; with_reducible rfl; rotate_left; simp only [Act.put,sA_,sB_,sC_,i64_w,i32_w]; rfl
            refine pu_ (i:=62) (N:=some 67) (v:=?_) (a':=?_) rfl rfl (by kernel_rfl) (fun _ _ _ h => h) (Or.inl ⟨by rfl,?_⟩) ?_ ?_
            rotate_left; intro w'; go_simp; with_reducible rfl; rotate_left; simp only [Act.put,sA_,sB_,sC_,i64_w,i32_w]; rfl
            refine pu_ (i:=63) (N:=some 68) (v:=undef) (a':=?_) rfl rfl (by kernel_rfl) (fun _ _ _ h => h) (Or.inr ⟨by rfl,rfl⟩) ?_ ?_
            rotate_left; simp only [Act.put,sA_,sB_,sC_,i64_w,i32_w]; rfl
            refine pu_ (i:=64) (N:=some 69) (v:=undef) (a':=?_) rfl rfl (by kernel_rfl) (fun _ _ _ h => h) (Or.inr ⟨by rfl,rfl⟩) ?_ ?_
            rotate_left; simp only [Act.put,sA_,sB_,sC_,i64_w,i32_w]; rfl
            refine pu_ (i:=65) (N:=some 70) (v:=undef) (a':=?_) rfl rfl (by kernel_rfl) (fun _ _ _ h => h) (Or.inr ⟨by rfl,rfl⟩) ?_ ?_
            rotate_left; simp only [Act.put,sA_,sB_,sC_,i64_w,i32_w]; rfl
            refine pu_ (i:=66) (N:=some 71) (v:=?_) (a':=?_) rfl rfl (by kernel_rfl) (fun _ _ _ h => h) (Or.inl ⟨by rfl,?_⟩) ?_ ?_
            rotate_left; intro w'; go_simp; with_reducible rfl; rotate_left; simp only [Act.put,sA_,sB_,sC_,i64_w,i32_w]; rfl
            refine done_ (by kernel_rfl) ?_
            go_wp2_with fail
            go_ret
            exact ⟨rfl,((Fr.refl hok).al _).dr⟩
         refine pu_ (i:=60) (N:=some 65) (v:=?_) (a':=?_) rfl rfl (by kernel_rfl) (fun _ _ _ h => h) (Or.inl ⟨by rfl,?_⟩) ?_ ?_
         rotate_left; intro w'; go_simp; with_reducible rfl; rotate_left; simp only [Act.put,sA_,sB_,sC_,i64_w,i32_w]; rfl
         as_aux_lemma =>
          refine pure_ (i:=61) (N:=some 66) (v:=?_) (a':=?_) #[t_,t_,t_,t_,t_,t_,t_,t_,t_,t_,t_,t_,t_,t_,t_,t_,t_,t_,t_,t_,t_,t_,t_,t_,t_,t_,t_,t_,t_,t_,t_,t_,t_,t_,t_,t_,t_,t_,t_,t_,t_,t_,t_,t_,t_,t_,t_,t_,t_,t_,t_,t_,t_,t_,t_,t_,t_,t_,t_,t_,t_,t_,f_,f_,f_,f_,f_] rfl rfl (by kernel_rfl) (fun _ _ _ h => h) (Or.inl ⟨by rfl,?_⟩) ?_ ?_
          rotate_left; intro w'; go_simp; with_reducible rfl; rotate_left; simp only [Act.put,sA_,sB_,sC_,i64_w,i32_w]; rfl
          refine pu_ (i:=62) (N:=some 67) (v:=?_) (a':=?_) rfl rfl (by kernel_rfl) (fun _ _ _ h => h) (Or.inl ⟨by rfl,?_⟩) ?_ ?_
          rotate_left; intro w'; go_simp; with_reducible rfl; rotate_left; simp only [Act.put,sA_,sB_,sC_,i64_w,i32_w]; rfl
          refine pu_ (i:=63) (N:=some 68) (v:=?_) (a':=?_) rfl rfl (by kernel_rfl) (fun _ _ _ h => h) (Or.inl ⟨by rfl,?_⟩) ?_ ?_
          rotate_left; intro w'; go_simp; with_reducible rfl; rotate_left; simp only [Act.put,sA_,sB_,sC_,i64_w,i32_w]; rfl
          refine tk_ (i:=64) (N:=some 69) (v:=?_) (a':=?_) rfl rfl (by kernel_rfl) (fun _ _ _ h => h) (Or.inl ⟨by rfl,?_⟩) hHeld ?_ ?_
          rotate_left; rintro w' ⟨s0,s1,s2,s3,s4,s5,s6,s7⟩; go_simp; with_reducible rfl; rotate_left; simp only [Act.put,sA_,sB_,sC_,i64_w,i32_w]; rfl
          rcases Bool.eq_false_or_eq_true (decide (32 ≤ ms)) with g65 | g65
          · as_aux_lemma =>
             refine pu_ (i:=65) (N:=some 70) (v:=?_) (a':=?_) rfl rfl (by kernel_rfl) (fun _ _ _ h => h) (Or.inl ⟨by rfl,?_⟩) ?_ ?_
             rotate_left; intro w'; go_simp; with_reducible rfl; rotate_left; simp only [Act.put,sA_,sB_,sC_,i64_w,i32_w]; rfl
             refine pu_ (i:=66) (N:=some 71) (v:=?_) (a':=?_) rfl rfl (by kernel_rfl) (fun _ _ _ h => h) (Or.inl ⟨by rfl,?_⟩) ?_ ?_
             rotate_left; intro w'; go_simp; with_reducible rfl; rotate_left; simp only [Act.put,sA_,sB_,sC_,i64_w,i32_w]; rfl
             refine done_ (by kernel_rfl) ?_
             go_wp2_with fail
             go_ret
             exact ⟨rfl,((Fr.refl hok).al _).dr⟩
          refine pu_ (i:=65) (N:=some 70) (v:=?_) (a':=?_) rfl rfl (by kernel_rfl) (fun _ _ _ h => h) (Or.inl ⟨by rfl,?_⟩) ?_ ?_
          rotate_left; intro w'; go_simp; with_reducible rfl; rotate_left; simp only [Act.put,sA_,sB_,sC_,i64_w,i32_w]; rfl
          refine pu_ (i:=66) (N:=some 71) (v:=?_) (a':=?_) rfl rfl (by kernel_rfl) (fun _ _ _ h => h) (Or.inl ⟨by rfl,?_⟩) ?_ ?_
          rotate_left; intro w'; go_simp; with_reducible rfl; rotate_left; simp only [Act.put,sA_,sB_,sC_,i64_w,i32_w]; rfl
          refine done_ (by kernel_rfl) ?_
          exact absurd HB.out (by simp [g2,g6,g15,g20,g25,g30,g40,g45,g50,g54,g60,g65])
      refine pu_ (i:=50) (N:=some 55) (v:=?_) (a':=?_) rfl rfl (by kernel_rfl) (fun _ _ _ h => h) (Or.inl ⟨by rfl,?_⟩) ?_ ?_
      rotate_left; intro w'; go_simp; with_reducible rfl; rotate_left; simp only [Act.put,sA_,sB_,sC_,i64_w,i32_w]; rfl
      refine pu_ (i:=51) (N:=some 56) (v:=?_) (a':=?_) rfl rfl (by kernel_rfl) (fun _ _ _ h => h) (Or.inl ⟨by rfl,?_⟩) ?_ ?_
      rotate_left; intro w'; go_simp; with_reducible rfl; rotate_left; simp only [Act.put,sA_,sB_,sC_,i64_w,i32_w]; rfl
      refine pu_ (i:=52) (N:=some 57) (v:=undef) (a':=?_) rfl rfl (by kernel_rfl) (fun _ _ _ h => h) (Or.inr ⟨by rfl,rfl⟩) ?_ ?_
      rotate_left; simp only [Act.put,sA_,sB_,sC_,i64_w,i32_w]; rfl
      refine pu_ (i:=53) (N:=some 58) (v:=undef) (a':=?_) rfl rfl (by kernel_rfl) (fun _ _ _ h => h) (Or.inr ⟨by rfl,rfl⟩) ?_ ?_
      rotate_left; simp only [Act.put,sA_,sB_,sC_,i64_w,i32_w]; rfl
      refine pu_ (i:=54) (N:=some 59) (v:=undef) (a':=?_) rfl rfl (by kernel_rfl) (fun _ _ _ h => h) (Or.inr ⟨by rfl,rfl⟩) ?_ ?_
      rotate_left; simp only [Act.put,sA_,sB_,sC_,i64_w,i32_w]; rfl
      refine pu_ (i:=55) (N:=some 60) (v:=?_) (a':=?_) rfl rfl (by kernel_rfl) (fun _ _ _ h => h) (Or.inl ⟨by rfl,?_⟩) ?_ ?_
      rotate_left; intro w'; go_simp; with_reducible rfl; rotate_left; simp only [Act.put,sA_,sB_,sC_,i64_w,i32_w]; rfl
      refine pu_ (i:=56) (N:=some 61) (v:=?_) (a':=?_) rfl rfl (by kernel_rfl) (fun _ _ _ h => h) (Or.inl ⟨by rfl,?_⟩) ?_ ?_
      rotate_left; intro w'; go_simp; with_reducible rfl; rotate_left; simp only [Act.put,sA_,sB_,sC_,i64_w,i32_w]; rfl
      refine pu_ (i:=57) (N:=some 62) (v:=?_) (a':=?_) rfl rfl (by kernel_rfl) (fun _ _ _ h => h) (Or.inl ⟨by rfl,?_⟩) ?_ ?_
      rotate_left; intro w'; go_simp; with_reducible rfl; rotate_left; simp only [Act.put,sA_,sB_,sC_,i64_w,i32_w]; rfl
      as_aux_lemma =>
       refine pure_ (i:=58) (N:=some 63) (v:=?_) (a':=?_) #[t_,t_,t_,t_,t_,t_,t_,t_,t_,t_,t_,t_,t_,t_,t_,t_,t_,t_,t_,t_,t_,t_,t_,t_,t_,t_,t_,t_,t_,t_,t_,t_,t_,t_,t_,t_,t_,t_,t_,t_,t_,t_,t_,t_,t_,t_,t_,t_,t_,t_,t_,t_,t_,t_,t_,t_,t_,t_,t_,f_,f_,f_,f_,f_,f_,f_,f_] rfl rfl (by kernel_rfl) (fun _ _ _ h => h) (Or.inl ⟨by rfl,?_⟩) ?_ ?_
       rotate_left; intro w'; go_simp; with_reducible rfl; rotate_left; simp only [Act.put,sA_,sB_,sC_,i64_w,i32_w]; rfl
       refine tk_ (i:=59) (N:=some 64) (v:=?_) (a':=?_) rfl rfl (by kernel_rfl) (fun _ _ _ h => h) (Or.inl ⟨by rfl,?_⟩) hHeld ?_ ?_
       rotate_left; rintro w' ⟨s0,s1,s2,s3,s4,s5,s6,s7⟩; go_simp; with_reducible rfl; rotate_left; simp only [Act.put,sA_,sB_,sC_,i64_w,i32_w]; rfl
       rcases Bool.eq_false_or_eq_true (decide (ms < 0)) with g60 | g60
       · as_aux_lemma =>
          refine pu_ (i:=60) (N:=some 65) (v:=?_) (a':=?_) rfl rfl (by kernel_rfl) (fun _ _ _ h => h) (Or.inl ⟨by rfl,?_⟩) ?_ ?_
          rotate_left; intro w'; go_simp; with_reducible rfl; rotate_left; simp only [Act.put,sA_,sB_,sC_,i64_w,i32_w]; rfl
          refine pu_ (i:=61) (N:=some 66) (v:=?_) (a':=?_) rfl rfl (by kernel_rfl) (fun _ _ _ h => h) (Or.inl ⟨by rfl,?_⟩) ?_ ?_
          rotate_left; intro w'; go_simp; with_reducible rfl; rotate_left; simp only [Act.put,sA_,sB_,sC_,i64_w,i32_w]; rfl
          refine pu_ (i:=62) (N:=some 67) (v:=?_) (a':=?_) rfl rfl (by kernel_rfl) (fun _ _ _ h => h) (Or.inl ⟨by rfl,?_⟩) ?_ ?_
          rotate_left; intro w'; go_simp; with_reducible rfl; rotate_left; simp only [Act.put,sA_,sB_,sC_,i64_w,i32_w]; rfl
          refine pu_ (i:=63) (N:=some 68) (v:=undef) (a':=?_) rfl rfl (by kernel_rfl) (fun _ _ _ h => h) (Or.inr ⟨by rfl,rfl⟩) ?_ ?_
          rotate_left; simp only [Act.put,sA_,sB_,sC_,i64_w,i32_w]; rfl
          refine pu_ (i:=64) (N:=some 69) (v:=undef) (a':=?_) rfl rfl (by kernel_rfl) (fun _ _ _ h => h) (Or.inr ⟨by rfl,rfl⟩) ?_ ?_
          rotate_left; simp only [Act.put,sA_,sB_,sC_,i64_w,i32_w]; rfl
          refine pu_ (i:=65) (N:=some 70) (v:=undef) (a':=?_) rfl rfl (by kernel_rfl) (fun _ _ _ h => h) (Or.inr ⟨by rfl,rfl⟩) ?_ ?_
          rotate_left; simp only [Act.put,sA_,sB_,sC_,i64_w,i32_w]; rfl
          refine pu_ (i:=66) (N:=some 71) (v:=?_) (a':=?_) rfl rfl (by kernel_rfl) (fun _ _ _ h => h) (Or.inl ⟨by rfl,?_⟩) ?_ ?_
          rotate_left; intro w'; go_simp; with_reducible rfl; rotate_left; simp only [Act.put,sA_,sB_,sC_,i64_w,i32_w]; rfl
          refine done_ (by kernel_rfl) ?_
          go_wp2_with fail
          go_ret
          exact ⟨rfl,((Fr.refl hok).al _).dr⟩
       refine pu_ (i:=60) (N:=some 65) (v:=?_) (a':=?_) rfl rfl (by kernel_rfl) (fun _ _ _ h => h) (Or.inl ⟨by rfl,?_⟩) ?_ ?_
       rotate_left; intro w'; go_simp; with_reducible rfl; rotate_left; simp only [Act.put,sA_,sB_,sC_,i64_w,i32_w]; rfl
       refine pu_ (i:=61) (N:=some 66) (v:=?_) (a':=?_) rfl rfl (by kernel_rfl) (fun _ _ _ h => h) (Or.inl ⟨by rfl,?_⟩) ?_ ?_
       rotate_left; intro w'; go_simp; with_reducible rfl; rotate_left; simp only [Act.put,sA_,sB_,sC_,i64_w,i32_w]; rfl
       refine pu_ (i:=62) (N:=some 67) (v:=?_) (a':=?_) rfl rfl (by kernel_rfl) (fun _ _ _ h => h) (Or.inl ⟨by rfl,?_⟩) ?_ ?_
       rotate_left; intro w'; go_simp; with_reducible rfl; rotate_left; simp only [Act.put,sA_,sB_,sC_,i64_w,i32_w]; rfl
       refine pu_ (i:=63) (N:=some 68) (v:=?_) (a':=?_) rfl rfl (by kernel_rfl) (fun _ _ _ h => h) (Or.inl ⟨by rfl,?_⟩) ?_ ?_
       rotate_left; intro w'; go_simp; with_reducible rfl; rotate_left; simp only [Act.put,sA_,sB_,sC_,i64_w,i32_w]; rfl
       refine tk_ (i:=64) (N:=some 69) (v:=?_) (a':=?_) rfl rfl (by kernel_rfl) (fun _ _ _ h => h) (Or.inl ⟨by rfl,?_⟩) hHeld ?_ ?_
       rotate_left; rintro w' ⟨s0,s1,s2,s3,s4,s5,s6,s7⟩; go_simp; with_reducible rfl; rotate_left; simp only [Act.put,sA_,sB_,sC_,i64_w,i32_w]; rfl
       rcases Bool.eq_false_or_eq_true (decide (32 ≤ ms)) with g65 | g65
       · as_aux_lemma =>
          refine pu_ (i:=65) (N:=some 70) (v:=?_) (a':=?_) rfl rfl (by kernel_rfl) (fun _ _ _ h => h) (Or.inl ⟨by rfl,?_⟩) ?_ ?_
          rotate_left; intro w'; go_simp; with_reducible rfl; rotate_left; simp only [Act.put,sA_,sB_,sC_,i64_w,i32_w]; rfl
          refine pu_ (i:=66) (N:=some 71) (v:=?_) (a':=?_) rfl rfl (by kernel_rfl) (fun _ _ _ h => h) (Or.inl ⟨by rfl,?_⟩) ?_ ?_
          rotate_left; intro w'; go_simp; with_reducible rfl; rotate_left; simp only [Act.put,sA_,sB_,sC_,i64_w,i32_w]; rfl
          refine done_ (by kernel_rfl) ?_
          go_wp2_with fail
          go_ret
          exact ⟨rfl,((Fr.refl hok).al _).dr⟩
       refine pu_ (i:=65) (N:=some 70) (v:=?_) (a':=?_) rfl rfl (by kernel_rfl) (fun _ _ _ h => h) (Or.inl ⟨by rfl,?_⟩) ?_ ?_
       rotate_left; intro w'; go_simp; with_reducible rfl; rotate_left; simp only [Act.put,sA_,sB_,sC_,i64_w,i32_w]; rfl
       refine pu_ (i:=66) (N:=some 71) (v:=?_) (a':=?_) rfl rfl (by kernel_rfl) (fun _ _ _ h => h) (Or.inl ⟨by rfl,?_⟩) ?_ ?_
       rotate_left; intro w'; go_simp; with_reducible rfl; rotate_left; simp only [Act.put,sA_,sB_,sC_,i64_w,i32_w]; rfl
       refine done_ (by kernel_rfl) ?_
       exact absurd HB.out (by simp [g2,g6,g15,g20,g25,g30,g40,g45,g50,g60,g65])
end
end Go.Proofs.Ytclkokkppgchfaa
