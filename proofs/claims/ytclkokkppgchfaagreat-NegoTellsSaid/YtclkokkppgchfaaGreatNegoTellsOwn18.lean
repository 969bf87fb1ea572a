/- A part of the proof: texts of this session, joined. -/
import Derived.Test.YtclkokkppgchfaaGreatNegoTellsOwn17
import Derived.Test.YtclkokkppgchfaaGreatPart10
import Derived.Test.YtclkokkppgchfaaGreatNegoTellsOwn16
import Derived.Test.YtclkokkppgchfaaGreatPart5
import Derived.Deep.DeepCutAuto
import Derived.Test.YtclkokkppgchfaaGreatShort
set_option linter.unusedSimpArgs false
set_option linter.unusedVariables false
namespace Go.Proofs.YtclkokkppgchfaaGreat
open Go.RowKit Go.Ng Go.Proofs.YtclkokkppgchfaaGreatW.PrintLast
section
variable {S : Tag → Prop} {tag tag' : Nat → Tag} {w w' : World} {B q p : Nat} {N : NetM} {P P' : PlaceM}
def MidD (tag : Nat → Tag) (w : World) (s : Nat) (w' : World) : Prop :=
 w'.heap[s]? = some (.cells #[.int .i64 0,.slice none 0 0,.int .i64 0,.int .i64 0] 134 (0,0)) ∧ w.heap.size ≤ s ∧ Fr (fun _ => False) tag tag w w'
theorem rknown_val (n : Int) (r : Bool) (hr : (decide (0 ≤ n) && decide (n < N.claims.length)) = r) (h : RNRep tag B w q N) :
  Calls Tryz.prog 66 #[.pointer (some ⟨q,0,none⟩),.int .i64 n] w fun e w' => e = .returned (.bool r) ∧ w' = w := hr ▸ rknown_ok n h
theorem rfind_fr {k pp : Nat} (n : Int) (i : Nat) (hi : idxR n P.props = i) (h : RPRep tag k w pp P) (hok : TagOk tag w) :
  Calls Tryz.prog 67 #[.pointer (some ⟨pp,0,none⟩),.int .i64 n] w fun e w' => e = .returned (.int .i64 (i : Int)) ∧ Fr (fun _ => False) tag tag w w' :=
 (rfind_val n i hi h).mono fun e w' ⟨h1,h2⟩ => ⟨h1,by rw [h2]; exact Fr.refl hok⟩
theorem rndrop_none (n : Int) (h : RNRep tag B w q N) (hn : (decide (0 ≤ n) && decide (n < N.claims.length)) = false) :
  Calls Tryz.prog 38 #[.pointer (some ⟨q,0,none⟩),.int .i64 n] w fun e w' => e = .returned (.int .i64 3) ∧ w' = w := by
 have HC := Lib.hid (rknown_val n false hn h)
 clear h hn
 go_enter Tryz.func38,Tryz.ntmps38
 go_wp2_with (go_at_call 66; refine HC.out.mono ?_; rintro e w1 ⟨rfl,h5⟩; have h5 := h5.symm; subst h5)
 go_ret
 exact ⟨rfl,rfl⟩
theorem rdrop_val {k pp R : Nat} {x : PropM} {n : Int} (h : RPRep tag k w pp P) (hok : TagOk tag w) (hR : R ≠ 0) (hRk : R ≠ k) (hW : WF P) (hnd : (P.props.map (·.1)).Nodup) (hf : find P.props n = some x) (hst : x.state = 1) (ho : P.out = []) (T : PlaceM) (hT : dropM P n x = T) :
  Calls Tryz.prog 68 #[.pointer (some ⟨pp,0,none⟩),.int .i64 n] w fun e w' => ∃ ov tag',e = .returned (.tuple #[ov,.int .i64 0]) ∧ Row tag' (R,1,0) 52 6 w' ov T.out.length (posts T.out) ∧ RPRep tag' k w' pp T ∧ Fr (fun t => t.1 = k ∨ t.1 = R) tag tag' w w' :=
 hT ▸ rdrop_ok h hok hR hRk hW hnd hf hst ho
set_option maxRecDepth 100000 in
set_option maxHeartbeats 6400000 in
theorem rndrop_ok {n : Nat} {x : PropM} (h : RNRep tag B w q N) (hok : TagOk tag w) (h32 : N.places.length ≤ 32) (hn : n < N.claims.length) (hh : N.homes[n]? = some (p : Int)) (hp : N.places[p]? = some P) (hx : find P.props n = some x) (hW : RWell P)
  (hpr : P.props.length ≤ 10000) (hdo : (dropM P n x).out.length ≤ 1000) (hfl : N.flight.length ≤ 19000) :
  Calls Tryz.prog 38 #[.pointer (some ⟨q,0,none⟩),.int .i64 (n : Int)] w fun e w' => (x.state ≠ 1 → e = .returned (.int .i64 273) ∧ Fr (fun _ => False) tag tag w w') ∧
   (x.state = 1 → e = .returned (.int .i64 0) ∧ ∃ tag',RNRep tag' B w' q (dropN N n p P x) ∧ Fr (fun t => B ≤ t.1 ∧ t.1 ≤ B + 33) tag tag' w w') := by
 obtain ⟨i49,hi49,hp0,hp1,hp2⟩ := info_parts Tryz.info52
 have hB0 := h.b0
 have hpw := (List.getElem?_eq_some_iff.1 hp).1
 obtain ⟨T,hT⟩ : ∃ T,dropM P n x = T := ⟨_,rfl⟩
 obtain ⟨i,hi,hix⟩ := find_idx hx
 have hfew := hW.wf.few _ _ (List.mem_of_getElem? hi)
 have hgl := hW.wf.le _ _ (List.mem_of_getElem? hi)
 have HKN := Lib.hid (rknown_val (n : Int) true (by simp; omega) h)
 obtain ⟨pv,fv,xv,hv',yv,dv,hce,⟨ps,p1,p2,p3⟩,h4,⟨cvs,h5,h6⟩,h7,_⟩ := h.cells
 obtain ⟨PA,pcap,rfl,q1,q2⟩ := p2.form
 obtain ⟨FA,fcap,rfl,q5,q6⟩ := h4.form
 obtain ⟨HA,hcap,rfl,q9,q10⟩ := h7.form
 unfold maxLen at q2 q6 q10
 obtain ⟨pp,hpp⟩ : ∃ c,ps[p]? = some c := ⟨_,List.getElem?_eq_getElem (by omega)⟩
 obtain ⟨pb,rfl,_,_,hpc⟩ := p2.cell rfl (j:=p) (by simp [p1]; omega)
 have hnh := (List.getElem?_eq_some_iff.1 hh).1
 obtain ⟨hb,rfl,_,_,hhc⟩ := h7.cell rfl (j:=n) (by rw [ints_len]; exact hnh)
 have hrp := p3 p pp P hpp hp
 have c0 : w.cell? ⟨q,0,none⟩ = some (.slice (some ⟨pb,0,none⟩) N.places.length pcap) := cell_of hce 0
 have c1 : w.cell? ⟨q,1,none⟩ = some (.slice FA N.flight.length fcap) := cell_of hce 1
 have c3 : w.cell? ⟨q,3,none⟩ = some (.slice (some ⟨hb,0,none⟩) N.homes.length hcap) := cell_of hce 3
 have e0 : w.cell? ⟨pb,p,none⟩ = some (.pointer (some ⟨pp,0,none⟩)) := by rw [hpc]; simp [hpp,rptr]
 have e1 : w.cell? ⟨hb,n,none⟩ = some (.int .i64 (p : Int)) := by rw [hhc]; simp [ints,hh]
 obtain ⟨av,iv,ppv,g1,_,_,prs,g6,g7,g8⟩ := hrp.cells
 obtain ⟨QA,qcap,rfl,z1,z2⟩ := g7.form
 unfold maxLen at z2
 have hil : i < prs.length := by have := (List.getElem?_eq_some_iff.1 hi).1; omega
 obtain ⟨⟨xn,xc,xs,xg⟩,hxx⟩ : ∃ c,prs[i]? = some c := ⟨_,List.getElem?_eq_getElem hil⟩
 have hr := g8 i n x _ hi hxx
 obtain ⟨r1,r2,r3,r4,r5⟩ := hr
 simp only at r1 r2 r3 r4 r5
 subst r1 r2 r3
 obtain ⟨qb,rfl,_,_,hqc⟩ := Row.elem (enc := RPr.cells) g7 (fun _ => rfl) (by decide) hxx
 obtain ⟨XA,xcap,rfl,_,_⟩ := r4.slice
 have f3 : w.cell? ⟨pp,3,none⟩ = some (.slice (some ⟨qb,0,none⟩) prs.length qcap) := cell_of g1 3
 have x0 : w.cell? ⟨qb,i * 4,none⟩ = some (.int .i64 (n : Int)) := hqc 0 _ rfl
 have x1 : w.cell? ⟨qb,i * 4 + 1,none⟩ = some (.slice XA x.claims.length xcap) := hqc 1 _ rfl
 have x2 : w.cell? ⟨qb,i * 4 + 2,none⟩ = some (.int .i64 x.state) := hqc 2 _ rfl
 have x3 : w.cell? ⟨qb,i * 4 + 3,none⟩ = some (.int .i64 (x.granted : Int)) := hqc 3 _ rfl
 have i1 : (0 : Int) ≤ (p : Int) := by omega
 have i2 : (p : Int) < (N.places.length : Int) := by omega
 have i3 : (0 : Int) ≤ (n : Int) := by omega
 have i4 : (n : Int) < (N.homes.length : Int) := by omega
 have i5 : (0 : Int) ≤ (i : Int) := by omega
 have i6 : (i : Int) < (prs.length : Int) := by omega
 have hqw := lt_of_heap hce
 have HN := Lib.hid h
 have HCE := Lib.hid hce
 have HRP := Lib.hid hrp
 have HP1 := Lib.hid p1
 have HP2 := Lib.hid p2
 have HP3 := Lib.hid p3
 have HPP := Lib.hid hpp
 have HX := Lib.hid hx
 have HW := Lib.hid hW
 have HIX := Lib.hid hix
 have HTT := Lib.hid hT
 have H4 := Lib.hid h4
 have hTo : T.out.length ≤ 1000 := by rw [← hT]; exact hdo
 have hR0 : B + 33 ≠ 0 := by omega
 have hRk : B + 33 ≠ B + 1 + p := by omega
 clear h hce p1 p2 p3 h4 h5 h6 h7 hpc hhc hp hx hW hi hix hT hdo hpp hh hn hnh hrp g1 g6 g7 g8 hxx r4 r5 hqc
 go_enter Tryz.func38,Tryz.ntmps38
 go_wp2_with (go_at_call 66; refine HKN.out.mono ?_; rintro e w1 ⟨rfl,h5⟩; have h5 := h5.symm; subst h5)
 refine start_ (n:=14) (S:=fun w' => w'.cell? ⟨q,0,none⟩ = some (.slice (some ⟨pb,0,none⟩) N.places.length pcap) ∧ w'.cell? ⟨q,3,none⟩ = some (.slice (some ⟨hb,0,none⟩) N.homes.length hcap) ∧ w'.cell? ⟨hb,n,none⟩ = some (.int .i64 (p : Int)) ∧ w'.cell? ⟨pb,p,none⟩ = some (.pointer (some ⟨pp,0,none⟩))) (ds := []) #[f_,f_,f_,f_,f_,f_,f_,f_,f_,f_,f_,f_,f_,f_] (by kernel_rfl) rfl rfl ⟨c0,c3,e1,e0⟩ (fun hHeld => ?_)
 refine pure_ (i:=0) (N:=some 17) (v:=?_) (a':=?_) #[t_,f_,f_,f_,f_,f_,f_,f_,f_,f_,f_,f_,f_,f_] rfl rfl (by kernel_rfl) (fun _ _ _ h => h) (Or.inl ⟨by rfl,?_⟩) ?_ ?_
 rotate_left;intro w';go_simp;with_reducible rfl;rotate_left;simp only [Act.put,sA_,sB_,sC_,i64_w,i32_w];rfl
 refine pure_ (i:=1) (N:=some 18) (v:=?_) (a':=?_) #[t_,t_,f_,f_,f_,f_,f_,f_,f_,f_,f_,f_,f_,f_] rfl rfl (by kernel_rfl) (fun _ _ _ h => h) (Or.inl ⟨by rfl,?_⟩) ?_ ?_
 rotate_left;intro w';go_simp;with_reducible rfl;rotate_left;simp only [Act.put,sA_,sB_,sC_,i64_w,i32_w];rfl
 refine pure_ (i:=2) (N:=some 19) (v:=?_) (a':=?_) #[t_,t_,t_,f_,f_,f_,f_,f_,f_,f_,f_,f_,f_,f_] rfl rfl (by kernel_rfl) (fun _ _ _ h => h) (Or.inl ⟨by rfl,?_⟩) ?_ ?_
 rotate_left;intro w';go_simp;with_reducible rfl;rotate_left;simp only [Act.put,sA_,sB_,sC_,i64_w,i32_w];rfl
 refine pure_ (i:=4) (N:=some 21) (v:=?_) (a':=?_) #[t_,t_,t_,f_,t_,f_,f_,f_,f_,f_,f_,f_,f_,f_] rfl rfl (by kernel_rfl) (fun _ _ _ h => h) (Or.inl ⟨by rfl,?_⟩) ?_ ?_
 rotate_left;intro w';go_simp;with_reducible rfl;rotate_left;simp only [Act.put,sA_,sB_,sC_,i64_w,i32_w];rfl
 refine pure_ (i:=5) (N:=some 22) (v:=?_) (a':=?_) #[t_,t_,t_,f_,t_,t_,f_,f_,f_,f_,f_,f_,f_,f_] rfl rfl (by kernel_rfl) (fun _ _ _ h => h) (Or.inl ⟨by rfl,?_⟩) ?_ ?_
 rotate_left;intro w';go_simp;with_reducible rfl;rotate_left;simp only [Act.put,sA_,sB_,sC_,i64_w,i32_w];rfl
 refine pure_ (i:=6) (N:=some 23) (v:=?_) (a':=?_) #[t_,t_,t_,f_,t_,t_,t_,f_,f_,f_,f_,f_,f_,f_] rfl rfl (by kernel_rfl) (fun _ _ _ h => h) (Or.inl ⟨by rfl,?_⟩) ?_ ?_
 rotate_left;intro w';go_simp;with_reducible rfl;rotate_left;simp only [Act.put,sA_,sB_,sC_,i64_w,i32_w];rfl
 refine pure_ (i:=8) (N:=some 25) (v:=?_) (a':=?_) #[t_,t_,t_,f_,t_,t_,t_,f_,t_,f_,f_,f_,f_,f_] rfl rfl (by kernel_rfl) (fun _ _ _ h => h) (Or.inl ⟨by rfl,?_⟩) ?_ ?_
 rotate_left;intro w';go_simp;with_reducible rfl;rotate_left;simp only [Act.put,sA_,sB_,sC_,i64_w,i32_w];rfl
 refine take_ (i:=3) (N:=some 20) (v:=?_) (a':=?_) #[t_,t_,t_,t_,t_,t_,t_,f_,t_,f_,f_,f_,f_,f_] rfl rfl (by kernel_rfl) (fun _ _ _ h => h) (Or.inl ⟨by rfl,?_⟩) hHeld ?_ ?_
 rotate_left;rintro w' ⟨s0,s1,s2,s3⟩;go_simp;with_reducible rfl;rotate_left;simp only [Act.put,sA_,sB_,sC_,i64_w,i32_w];rfl
 refine take_ (i:=7) (N:=some 24) (v:=?_) (a':=?_) #[t_,t_,t_,t_,t_,t_,t_,t_,t_,f_,f_,f_,f_,f_] rfl rfl (by kernel_rfl) (fun _ _ _ h => h) (Or.inl ⟨by rfl,?_⟩) hHeld ?_ ?_
 rotate_left;rintro w' ⟨s0,s1,s2,s3⟩;go_simp;with_reducible rfl;rotate_left;simp only [Act.put,sA_,sB_,sC_,i64_w,i32_w];rfl
 refine pure_ (i:=9) (N:=some 26) (v:=?_) (a':=?_) #[t_,t_,t_,t_,t_,t_,t_,t_,t_,t_,f_,f_,f_,f_] rfl rfl (by kernel_rfl) (fun _ _ _ h => h) (Or.inl ⟨by rfl,?_⟩) ?_ ?_
 rotate_left;intro w';go_simp;with_reducible rfl;rotate_left;simp only [Act.put,sA_,sB_,sC_,i64_w,i32_w];rfl
 refine take_ (i:=10) (N:=some 27) (v:=?_) (a':=?_) #[t_,t_,t_,t_,t_,t_,t_,t_,t_,t_,t_,f_,f_,f_] rfl rfl (by kernel_rfl) (fun _ _ _ h => h) (Or.inl ⟨by rfl,?_⟩) hHeld ?_ ?_
 rotate_left;rintro w' ⟨s0,s1,s2,s3⟩;go_simp;with_reducible rfl;rotate_left;simp only [Act.put,sA_,sB_,sC_,i64_w,i32_w];rfl
 refine pure_ (i:=11) (N:=some 28) (v:=?_) (a':=?_) #[t_,t_,t_,t_,t_,t_,t_,t_,t_,t_,t_,t_,f_,f_] rfl rfl (by kernel_rfl) (fun _ _ _ h => h) (Or.inl ⟨by rfl,?_⟩) ?_ ?_
 rotate_left;intro w';go_simp;with_reducible rfl;rotate_left;simp only [Act.put,sA_,sB_,sC_,i64_w,i32_w];rfl
 refine take_ (i:=12) (N:=some 29) (v:=?_) (a':=?_) #[t_,t_,t_,t_,t_,t_,t_,t_,t_,t_,t_,t_,t_,f_] rfl rfl (by kernel_rfl) (fun _ _ _ h => h) (Or.inl ⟨by rfl,?_⟩) hHeld ?_ ?_
 rotate_left;rintro w' ⟨s0,s1,s2,s3⟩;go_simp;with_reducible rfl;rotate_left;simp only [Act.put,sA_,sB_,sC_,i64_w,i32_w];rfl
 refine pure_ (i:=13) (N:=some 6) (v:=?_) (a':=?_) #[t_,t_,t_,t_,t_,t_,t_,t_,t_,t_,t_,t_,t_,t_] rfl rfl (by kernel_rfl) (fun _ _ _ h => h) (Or.inl ⟨by rfl,?_⟩) ?_ ?_
 rotate_left;intro w';go_simp;with_reducible rfl;rotate_left;simp only [Act.put,sA_,sB_,sC_,i64_w,i32_w];rfl
 refine done_ (by kernel_rfl) ?_
 clear hHeld
 go_upto_region 7 with fail
 obtain ⟨w1,hw1⟩ : ∃ yy,yy = w.drew := ⟨_,rfl⟩
 rw [← hw1]
 have hF1 : Fr (fun _ => False) tag tag w w1 := by rw [hw1]; exact Fr.drew hok
 have k3 : w1.cell? ⟨pp,3,none⟩ = some (.slice (some ⟨qb,0,none⟩) prs.length qcap) := hF1.cellF f3
 have k4 : w1.cell? ⟨qb,i * 4,none⟩ = some (.int .i64 (n : Int)) := hF1.cellF x0
 have k5 : w1.cell? ⟨qb,i * 4 + 1,none⟩ = some (.slice XA x.claims.length xcap) := hF1.cellF x1
 have k6 : w1.cell? ⟨qb,i * 4 + 2,none⟩ = some (.int .i64 x.state) := hF1.cellF x2
 have k7 : w1.cell? ⟨qb,i * 4 + 3,none⟩ = some (.int .i64 (x.granted : Int)) := hF1.cellF x3
 have HF1 := Lib.hid hF1
 have HRP1 := Lib.hid (HRP.out.frF hF1)
 have hok1 := hF1.dom
 have C1 := Lib.hid c1
 clear hw1 hF1 c0 c1 c3 e0 e1 f3 x0 x1 x2 x3
 have HG0 : Hid (Fr (fun _ => False) tag tag w1 w1.drew) := Lib.hid (Fr.drew hok1)
 refine start_ (n:=11) (S:=fun w' => w'.cell? ⟨pp,3,none⟩ = some (.slice (some ⟨qb,0,none⟩) prs.length qcap) ∧ w'.cell? ⟨qb,i * 4,none⟩ = some (.int .i64 (n : Int)) ∧ w'.cell? ⟨qb,i * 4 + 1,none⟩ = some (.slice XA x.claims.length xcap) ∧ w'.cell? ⟨qb,i * 4 + 2,none⟩ = some (.int .i64 x.state) ∧ w'.cell? ⟨qb,i * 4 + 3,none⟩ = some (.int .i64 (x.granted : Int))) (ds := [10]) #[f_,f_,f_,f_,f_,f_,f_,f_,f_,f_,f_] (by kernel_rfl) rfl rfl ⟨k3,k4,k5,k6,k7⟩ (fun hHeld => ?_)
 generalize w1.drew = W0 at HG0 hHeld ⊢
 refine pure_ (i:=0) (N:=some 30) (v:=?_) (a':=?_) #[t_,f_,f_,f_,f_,f_,f_,f_,f_,f_,f_] rfl rfl (by kernel_rfl) (fun _ _ _ h => h) (Or.inl ⟨by rfl,?_⟩) ?_ ?_
 rotate_left;intro w';go_simp;with_reducible rfl;rotate_left;simp only [Act.put,sA_,sB_,sC_,i64_w,i32_w];rfl
 refine pure_ (i:=1) (N:=some 31) (v:=?_) (a':=?_) #[t_,t_,f_,f_,f_,f_,f_,f_,f_,f_,f_] rfl rfl (by kernel_rfl) (fun _ _ _ h => h) (Or.inl ⟨by rfl,?_⟩) ?_ ?_
 rotate_left;intro w';go_simp;with_reducible rfl;rotate_left;simp only [Act.put,sA_,sB_,sC_,i64_w,i32_w];rfl
 refine pure_ (i:=2) (N:=some 32) (v:=?_) (a':=?_) #[t_,t_,t_,f_,f_,f_,f_,f_,f_,f_,f_] rfl rfl (by kernel_rfl) (fun _ _ _ h => h) (Or.inl ⟨by rfl,?_⟩) ?_ ?_
 rotate_left;intro w';go_simp;with_reducible rfl;rotate_left;simp only [Act.put,sA_,sB_,sC_,i64_w,i32_w];rfl
 refine pure_ (i:=4) (N:=some 34) (v:=?_) (a':=?_) #[t_,t_,t_,f_,t_,f_,f_,f_,f_,f_,f_] rfl rfl (by kernel_rfl) (fun _ _ _ h => h) (Or.inl ⟨by rfl,?_⟩) ?_ ?_
 rotate_left;intro w';go_simp;with_reducible rfl;rotate_left;simp only [Act.put,sA_,sB_,sC_,i64_w,i32_w];rfl
 refine pure_ (i:=5) (N:=some 35) (v:=?_) (a':=?_) #[t_,t_,t_,f_,t_,t_,f_,f_,f_,f_,f_] rfl rfl (by kernel_rfl) (fun _ _ _ h => h) (Or.inl ⟨by rfl,?_⟩) ?_ ?_
 rotate_left;intro w';go_simp;with_reducible rfl;rotate_left;simp only [Act.put,sA_,sB_,sC_,i64_w,i32_w];rfl
 refine take_ (i:=3) (N:=some 33) (v:=?_) (a':=?_) #[t_,t_,t_,t_,t_,t_,f_,f_,f_,f_,f_] rfl rfl (by kernel_rfl) (fun _ _ _ h => h) (Or.inl ⟨by rfl,?_⟩) hHeld ?_ ?_
 rotate_left;rintro w' ⟨s0,s1,s2,s3,s4⟩;go_simp;with_reducible rfl;rotate_left;simp only [Act.put,sA_,sB_,sC_,i64_w,i32_w];rfl
 refine join_ (σ := Nat) 1 #[t_,t_,t_,t_,t_,t_,t_,t_,t_,t_,f_] (fun s => [(36,.int .i64 (i : Int)),(37,.pointer (some ⟨qb,i * 4,none⟩)),(38,.agg #[.int .i64 (n : Int),.slice XA x.claims.length xcap,.int .i64 x.state,.int .i64 (x.granted : Int)]),(7,.pointer (some ⟨s,0,none⟩))]) (MidD tag w1) ?_ ?_
 rotate_left
 ·intro hCont
  refine two_ (i:=6) (j:=9) (Ni := some 36) (Nj := some 7) #[t_,t_,t_,t_,t_,t_,t_,f_,f_,f_,f_] #[t_,t_,t_,t_,t_,t_,f_,f_,f_,t_,f_] rfl rfl rfl rfl (by kernel_rfl) (by decide) (by decide) (fun K hK => ?_) (fun K hK => ?_)
  ·skip
   refine goes_ Tryz.func67 (by kernel_rfl) rfl #[.pointer (some ⟨pp,0,none⟩),.int .i64 (n : Int)] (by rfl) rfl rfl (by simp only [List.map_toArray,List.map_cons,List.map_nil]; rfl) ?_
   with_reducible refine (rfind_fr (n : Int) i HIX.out (HRP1.out.frF HG0.out) HG0.out.dom).mono ?_
   rintro e W1 ⟨rfl,hs⟩
   refine ⟨_,rfl,?_⟩
   have HG1 := Lib.hid (HG0.out.trans hs)
   clear hs
   refine hK.out _ _ ⟨HG1.out.cellF k3,HG1.out.cellF k4,HG1.out.cellF k5,HG1.out.cellF k6,HG1.out.cellF k7⟩ (fun hHeld => ?_)
   clear hK K
   refine norm_ (a':=?_) ?_ ?_
   rotate_left
   ·show Act.put _ (some 36) _ = _
    simp only [Act.put,sA_,sB_,sC_,i64_w,i32_w]
    rfl
   refine pure_ (i:=7) (N:=some 37) (v:=?_) (a':=?_) #[t_,t_,t_,t_,t_,t_,t_,t_,f_,f_,f_] rfl rfl (by kernel_rfl) (fun _ _ _ h => h) (Or.inl ⟨by rfl,?_⟩) ?_ ?_
   rotate_left;intro w';go_simp;with_reducible rfl;rotate_left;simp only [Act.put,sA_,sB_,sC_,i64_w,i32_w];rfl
   refine take_ (i:=8) (N:=some 38) (v:=?_) (a':=?_) #[t_,t_,t_,t_,t_,t_,t_,t_,t_,f_,f_] rfl rfl (by kernel_rfl) (fun _ _ _ h => h) (Or.inl ⟨by rfl,?_⟩) hHeld ?_ ?_
   rotate_left;rintro w' ⟨s0,s1,s2,s3,s4⟩;go_simp;with_reducible rfl;rotate_left;simp only [Act.put,sA_,sB_,sC_,i64_w,i32_w];rfl
   refine one_ (i:=9) (N:=some 7) #[t_,t_,t_,t_,t_,t_,t_,t_,t_,t_,f_] rfl rfl (by kernel_rfl) (by decide) (fun K hK => ?_)
   refine value_ (w1:=?_) (v:=?_) (by rfl) rfl ?_ ?_
   rotate_left 2
   ·go_simp
    constructor
    ·rfl
    ·rfl
   obtain ⟨W2,hW⟩ : ∃ yy,yy = World.alloc W1 (.cells #[.int .i64 0,.slice none 0 0,.int .i64 0,.int .i64 0] 134) := ⟨_,rfl⟩
   rw [← hW]
   obtain ⟨cb,hcb⟩ : ∃ yy,yy = (World.heap W1).size := ⟨_,rfl⟩
   have HB2 : Hid (W2.heap[cb]? = some (.cells #[.int .i64 0,.slice none 0 0,.int .i64 0,.int .i64 0] 134 (0,0))) := Lib.hid (by rw [hW,hcb]; exact Go.Ng.heap_alloc_at _ _)
   have HG2 : Hid (Fr (fun _ => False) tag tag w1 W2) := Lib.hid (by rw [hW]; exact HG1.out.al _)
   have HS : Hid (w1.heap.size ≤ cb) := Lib.hid (by rw [hcb]; exact HG1.out.size)
   rw [← hcb]
   clear hW hcb
   refine hK.out _ _ ⟨HG2.out.cellF k3,HG2.out.cellF k4,HG2.out.cellF k5,HG2.out.cellF k6,HG2.out.cellF k7⟩ (fun hHeld => ?_)
   clear hK K
   refine norm_ (a':=?_) ?_ ?_
   rotate_left
   ·show Act.put _ (some 7) _ = _
    simp only [Act.put,sA_,sB_,sC_,i64_w,i32_w]
    rfl
   exact norm_ (by simp only [putAll,Act.put,sA_,sB_,sC_]) (hCont cb _ ⟨HB2.out,HS.out,HG2.out⟩)
  ·skip
   refine value_ (w1:=?_) (v:=?_) (by rfl) rfl ?_ ?_
   rotate_left 2
   ·go_simp
    constructor
    ·rfl
    ·rfl
   obtain ⟨W1,hW⟩ : ∃ yy,yy = World.alloc W0 (.cells #[.int .i64 0,.slice none 0 0,.int .i64 0,.int .i64 0] 134) := ⟨_,rfl⟩
   rw [← hW]
   obtain ⟨cb,hcb⟩ : ∃ yy,yy = (World.heap W0).size := ⟨_,rfl⟩
   have HB1 : Hid (W1.heap[cb]? = some (.cells #[.int .i64 0,.slice none 0 0,.int .i64 0,.int .i64 0] 134 (0,0))) := Lib.hid (by rw [hW,hcb]; exact Go.Ng.heap_alloc_at _ _)
   have HG1 : Hid (Fr (fun _ => False) tag tag w1 W1) := Lib.hid (by rw [hW]; exact HG0.out.al _)
   have HS : Hid (w1.heap.size ≤ cb) := Lib.hid (by rw [hcb]; exact HG0.out.size)
   rw [← hcb]
   clear hW hcb
   refine hK.out _ _ ⟨HG1.out.cellF k3,HG1.out.cellF k4,HG1.out.cellF k5,HG1.out.cellF k6,HG1.out.cellF k7⟩ (fun hHeld => ?_)
   clear hK K
   refine norm_ (a':=?_) ?_ ?_
   rotate_left
   ·show Act.put _ (some 7) _ = _
    simp only [Act.put,sA_,sB_,sC_,i64_w,i32_w]
    rfl
   refine one_ (i:=6) (N:=some 36) #[t_,t_,t_,t_,t_,t_,t_,f_,f_,t_,f_] rfl rfl (by kernel_rfl) (by decide) (fun K hK => ?_)
   refine goes_ Tryz.func67 (by kernel_rfl) rfl #[.pointer (some ⟨pp,0,none⟩),.int .i64 (n : Int)] (by rfl) rfl rfl (by simp only [List.map_toArray,List.map_cons,List.map_nil]; rfl) ?_
   with_reducible refine (rfind_fr (n : Int) i HIX.out (HRP1.out.frF HG1.out) HG1.out.dom).mono ?_
   rintro e W2 ⟨rfl,hs⟩
   refine ⟨_,rfl,?_⟩
   have HG2 := Lib.hid (HG1.out.trans hs)
   have HB2 := Lib.hid (hs.heap HB1.out (fun x => x))
   clear hs
   refine hK.out _ _ ⟨HG2.out.cellF k3,HG2.out.cellF k4,HG2.out.cellF k5,HG2.out.cellF k6,HG2.out.cellF k7⟩ (fun hHeld => ?_)
   clear hK K
   refine norm_ (a':=?_) ?_ ?_
   rotate_left
   ·show Act.put _ (some 36) _ = _
    simp only [Act.put,sA_,sB_,sC_,i64_w,i32_w]
    rfl
   refine pure_ (i:=7) (N:=some 37) (v:=?_) (a':=?_) #[t_,t_,t_,t_,t_,t_,t_,t_,f_,t_,f_] rfl rfl (by kernel_rfl) (fun _ _ _ h => h) (Or.inl ⟨by rfl,?_⟩) ?_ ?_
   rotate_left;intro w';go_simp;with_reducible rfl;rotate_left;simp only [Act.put,sA_,sB_,sC_,i64_w,i32_w];rfl
   refine take_ (i:=8) (N:=some 38) (v:=?_) (a':=?_) #[t_,t_,t_,t_,t_,t_,t_,t_,t_,t_,f_] rfl rfl (by kernel_rfl) (fun _ _ _ h => h) (Or.inl ⟨by rfl,?_⟩) hHeld ?_ ?_
   rotate_left;rintro w' ⟨s0,s1,s2,s3,s4⟩;go_simp;with_reducible rfl;rotate_left;simp only [Act.put,sA_,sB_,sC_,i64_w,i32_w];rfl
   exact norm_ (by simp only [putAll,Act.put,sA_,sB_,sC_]) (hCont cb _ ⟨HB2.out,HS.out,HG2.out⟩)
 rintro b7 w2 ⟨hb,hs,hg⟩
 have HB := Lib.hid hb
 have HS := Lib.hid hs
 have HG := Lib.hid hg
 have z0 : w2.cell? ⟨b7,0,none⟩ = some (.int .i64 0) := cell_of hb 0
 have z1 : w2.cell? ⟨b7,1,none⟩ = some (.slice none 0 0) := cell_of hb 1
 have z2 : w2.cell? ⟨b7,2,none⟩ = some (.int .i64 0) := cell_of hb 2
 have z3 : w2.cell? ⟨b7,3,none⟩ = some (.int .i64 0) := cell_of hb 3
 have fz0 := free_of hb 0
 have fz1 := free_of hb 1
 have fz2 := free_of hb 2
 have fz3 := free_of hb 3
 have hHeld := And.intro (hg.cellF k3) (And.intro (hg.cellF k4) (And.intro (hg.cellF k5) (And.intro (hg.cellF k6) (hg.cellF k7))))
 clear hb hs hg
 refine norm_ (a':=?_) ?_ ?_
 rotate_left
 ·simp only [putAll,Act.put,sA_,sB_,sC_]
  rfl
 refine last_ (i:=10) (N:=none) #[t_,t_,t_,t_,t_,t_,t_,t_,t_,t_,t_] rfl rfl (by kernel_rfl) (by decide) (fun K hK => ?_)
 refine skip_ (w1:=?_) (by rfl) rfl ?_ ?_
 rotate_left
 ·go_simp
  rfl
 refine hK.out _ _ ?_
 clear hK K
 refine done_ (by kernel_rfl) ?_
 clear hHeld k3 k4 k5 k6 k7
 go_upto_region 8 with fail
 clear z0 z1 z2 z3 fz0 fz1 fz2 fz3
 obtain ⟨w3,hw3⟩ : ∃ yy,yy = (((w2.setCell ⟨b7,0,none⟩ (.int .i64 (n : Int))).setCell ⟨b7,1,none⟩ (.slice XA x.claims.length xcap)).setCell ⟨b7,2,none⟩ (.int .i64 x.state)).setCell ⟨b7,3,none⟩ (.int .i64 (x.granted : Int)) := ⟨_,rfl⟩
 rw [← hw3]
 have hF3 : Fr (fun _ => False) tag tag w w3 := by
  have h0 := HS.out
  have h1 := HF1.out.size
  rw [hw3]
  exact ((((HF1.out.trans HG.out).scn (by omega) _ _).scn (by omega) _ _).scn (by omega) _ _).scn (by omega) _ _
 have HF3 := Lib.hid hF3
 have HX3 : Hid (w3.heap[b7]? = some (.cells #[.int .i64 (n : Int),.slice XA x.claims.length xcap,.int .i64 x.state,.int .i64 (x.granted : Int)] 134 (0,0))) := Lib.hid (by
  rw [hw3,Go.Ng.heap_setCell_same (Go.Ng.heap_setCell_same (Go.Ng.heap_setCell_same (Go.Ng.heap_setCell_same HB.out 0 _) 1 _) 2 _) 3 _]
  rfl)
 have HRP3 := Lib.hid (HRP.out.frF hF3)
 have hok3 := hF3.dom
 have y2 : w3.cell? ⟨b7,2,none⟩ = some (.int .i64 x.state) := cell_of HX3.out 2
 have y3 : w3.cell? ⟨b7,3,none⟩ = some (.int .i64 (x.granted : Int)) := cell_of HX3.out 3
 have c1 : w3.cell? ⟨q,1,none⟩ = some (.slice FA N.flight.length fcap) := hF3.cellF C1.out
 clear hw3 hF3
 by_cases hst : x.state = 1
 ·have hst2 : (x.state != 1) = false := by simp [hst]
  have HST := Lib.hid hst
  clear hst
  have hw1' : IntKind.i64.wrap ((N.flight.length : Int) + (x.granted : Int)) = (N.flight.length : Int) + (x.granted : Int) := IntWalk.i64_in _ (by omega)
  have hw2' : IntKind.i64.wrap ((N.flight.length : Int) + (x.granted : Int) + 1) = (N.flight.length : Int) + (x.granted : Int) + 1 := IntWalk.i64_in _ (by omega)
  have hw3' : decide ((20000 : Int) < (N.flight.length : Int) + (x.granted : Int) + 1) = false := by simp; omega
  go_upto_region 10 with fail
  go_quiet (fail)
  clear hw1' hw2' hw3'
  obtain ⟨w4,hw4⟩ : ∃ yy,yy = w3.drewN nq := ⟨_,rfl⟩
  rw [← hw4]
  have hA4 : Fr (fun _ => False) tag tag w3 w4 := by rw [hw4]; exact Fr.drewN hok3 nq
  have HF4 := Lib.hid (HF3.out.trans hA4)
  have HRP4 := Lib.hid (HRP3.out.frF hA4)
  have hok4 := hA4.dom
  clear hw4 hA4 c1 y2 y3
  go_upto_region 13 with (
   go_at_call 68
   refine (rdrop_val HRP4.out hok4 hR0 hRk HW.out.wf HW.out.nd HX.out HST.out HW.out.out T HTT.out).mono ?_
   rintro e w5 ⟨ov,tag5,rfl,h1,h2,h3⟩
   obtain ⟨OA,ocap,rfl,o1,o2⟩ := h1.form
   have K1 := Lib.hid h1
   have K2 := Lib.hid h2
   have K3 := Lib.hid (HF4.out.up.trans h3)
   clear h1 h2 h3)
  have hnB : ∀ r j,¬ (((B,r,j) : Tag).1 = B + 1 + p ∨ ((B,r,j) : Tag).1 = B + 33) := fun r j => by simp; omega
  have hps : (ps.set p pp).map rptr = ps.map rptr := by
   obtain ⟨hx1,hx2⟩ := List.getElem?_eq_some_iff.1 HPP.out
   rw [← hx2,List.set_getElem_self]
  have hN5 : RNRep tag5 B w5 q { N with places := N.places.set p { T with out := [],came := [] } } :=
   HN.out.set_place (p2 := pp) hpw K3.out (fun t h => by rcases h with h | h; exact .inl h; exact .inr (.inr (by omega))) h32 HCE.out HP1.out HP3.out (by rw [hps]; exact HP2.out.fr K3.out (hnB _ _)) (K2.out.congr rfl rfl rfl rfl)
  have HN5 := Lib.hid hN5
  have hce5 := K3.out.heap HCE.out (by rw [HN.out.tptr]; exact hnB _ _)
  have HCE5 := Lib.hid hce5
  have HQ5 := Lib.hid hN5.tptr
  have H45 := Lib.hid (H4.out.fr K3.out (hnB _ _))
  have HPR5 := Lib.hid (K1.out.rd (posts_one' _))
  have hok5 := K3.out.dom
  have c1 : w5.cell? ⟨q,1,none⟩ = some (.slice FA N.flight.length fcap) := cell_of hce5 1
  clear hps hN5 hce5
  go_upto_region 14 with (
   at_builtin
   refine append_any_list rfl (.tmp 62) (.tmp 63) 35 rfl (by rfl) (by rfl) H45.out hok5 Tryz.underlying35 hi49 hp0 hp1 hp2 rfl (by decide) HPR5.out (by unfold maxLen; omega) (by omega) ?_
   intro A6 cap6 w6 tag6 hrow hfr
   have hc6 := hfr.heap HCE5.out (by rw [HQ5.out]; simp)
   have d1 : w6.cell? ⟨q,1,none⟩ = some (.slice FA N.flight.length fcap) := cell_of hc6 1
   have dz1 := free_of hc6 1
   have HCE6 := Lib.hid hc6
   have HFR6 := Lib.hid hfr
   have HROW6 := Lib.hid hrow
   clear hrow hfr hc6)
  go_wp2_with fail
  go_ret
  have hq6 : tag6 q = (B,1,0) := (HFR6.out.same q (lt_of_heap HCE5.out)).trans HQ5.out
  have hs7 : Fr (fun t => t = (B,1,0)) tag6 tag6 w6 (w6.setCell ⟨q,1,none⟩ (.slice A6 (N.flight.length + T.out.length) cap6)) := Fr.setCell HFR6.out.dom (a := ⟨q,1,none⟩) hq6 _
  have hf7 : Fr (fun t => t = (B,1,0) ∨ t = (B,4,0)) tag5 tag6 w5 (w6.setCell ⟨q,1,none⟩ (.slice A6 (N.flight.length + T.out.length) cap6)) := (HFR6.out.mono (fun _ h => .inr h)).trans (hs7.mono (fun _ h => .inl h))
  refine ⟨fun h => absurd HST.out h,fun _ => ⟨rfl,tag6,?_,(K3.out.mono (fun t h => ?_)).trans (hf7.mono (fun t h => ?_))⟩⟩
  ·have e : dropN N n p P x = { ({ N with places := N.places.set p { T with out := [],came := [] } } : NetM) with flight := N.flight ++ T.out } := by
    rw [dropN,takeN,HTT.out]; rfl
   rw [e]
   refine HN5.out.set_flight hf7 (fun t h => by rcases h with h | h; exact .inl h; exact .inr (.inl h)) (by simp; exact h32) _ ?_
   intro pv' fv' cv' hv'' yv' dv' hx
   obtain ⟨rfl,rfl,rfl,rfl,rfl,rfl⟩ : pv' = _ ∧ fv' = _ ∧ cv' = _ ∧ hv'' = _ ∧ yv' = yv ∧ dv' = dv := by
    have := hx.symm.trans HCE5.out
    simpa using this
   refine ⟨.slice A6 (N.flight.length + T.out.length) cap6,?_,?_⟩
   ·rw [Go.Ng.heap_setCell_same HCE6.out]; rfl
   ·rw [List.length_append,posts_app]
    exact HROW6.out.fr hs7 (by simp)
  ·omega
  ·rcases h with h | h <;> rw [h] <;> simp
 ·have hst2 : (x.state != 1) = true := by rw [bne_iff_ne]; exact hst
  have HST := Lib.hid hst
  clear hst
  go_wp2_with fail
  go_ret
  exact ⟨fun _ => ⟨rfl,HF3.out⟩,fun h => absurd h HST.out⟩
end
def keysOf (P : PlaceM) : List Int := P.props.map (·.1)
theorem refuseAll_props (j : Nat) (n : Int) : ∀ (l : List Asker) (P : PlaceM) (it : ItemM),(refuseAll j n l P it).props = P.props
 | [],P,it => rfl
 | a :: l,P,it => (refuseAll_props j n l _ _).trans rfl
theorem takeM_keys (P : PlaceM) (m : Post) : keysOf (takeM P m) = keysOf P := by
 unfold takeM
 split
 ·unfold grantedM
  split
  ·rfl
  ·split
   ·exact upd_keys _ _ _
   ·unfold keysOf
    rw [(commitM_same _ _ _).2.2.2.1]
    exact upd_keys _ _ _
 ·split
  ·unfold refusedM
   split
   ·rfl
   ·unfold keysOf
    rw [(freeM_same _ _ _).2.2.2.1]
    exact upd_keys _ _ _
  ·split
   ·rfl
   ·split
    ·unfold askedM
     split
     ·rfl
     ·split
      ·rfl
      ·split <;> rfl
    ·split
     ·unfold committedM
      split
      ·unfold keysOf
       rw [refuseAll_props]
       rfl
      ·rfl
     ·unfold freedM
      split
      ·split <;> rfl
      ·rfl
theorem find_none_keys {l : List (Int × PropM)} {n : Int} (h : find l n = none) : n ∉ l.map (·.1) := by
 unfold find at h
 rw [Option.map_eq_none_iff,List.find?_eq_none] at h
 intro hm
 obtain ⟨x,hx,rfl⟩ := List.mem_map.1 hm
 have := h x hx
 simp at this
def ThrNd (g : G) : Prop := ∀ j,(g.items j).thr.Nodup
theorem addP_nodup {n : Int} {l : List Int} (h : l.Nodup) : (addP n l).Nodup := by
 unfold addP
 split
 ·exact h
 ·rename_i hn
  exact List.nodup_append.2 ⟨h,by simp,fun a ha b hb => by rw [List.mem_singleton.1 hb]; rintro rfl; exact hn ha⟩
theorem thrAll_nodup : ∀ {l t : List Int},t.Nodup → (thrAll l t).Nodup
 | [],t,h => h
 | a :: l,t,h => by rw [thrAll]; exact thrAll_nodup (addP_nodup h)
theorem setI_thr {g : G} (h : ThrNd g) {j : Int} {x : It} (hx : x.thr.Nodup) : ThrNd (g.setI j x) := by
 intro i
 show (if i = j then x else g.items i).thr.Nodup
 split
 ·exact hx
 ·exact h i
theorem takeG_thr {g : G} (h : ThrNd g) (m : Post) : ThrNd (g.takeG m).1 := by
 unfold G.takeG
 split
 ·unfold G.grantedG
  split
  ·split <;> exact h
  ·exact h
 ·split
  ·unfold G.refusedG
   split <;> exact h
  ·split
   ·unfold G.askedG
    split
    ·exact h
    ·split
     ·exact setI_thr h (addP_nodup (h _))
     ·split
      ·exact setI_thr h (h _)
      ·exact setI_thr h (h _)
   ·split
    ·unfold G.committedG
     split
     ·exact setI_thr h (thrAll_nodup (addP_nodup (h _)))
     ·exact h
    ·unfold G.freedG
     split
     ·split
      ·exact setI_thr h (addP_nodup (h _))
      ·exact setI_thr h (addP_nodup (h _))
     ·exact setI_thr h (addP_nodup (h _))
structure RLive (tag : Nat → Tag) (B : Nat) (w : World) (q : Nat) (N : NetM) (g : G) (k : Nat) : Prop where
 rep : RNRep tag B w q N
 abs : Abs N g
 good : NGood g
 np : g.np ≤ k
 wt : W1.all g ≤ 65 * k
 ok : TagOk tag w
 nd : ∀ (i : Nat) (P : PlaceM),N.places[i]? = some P → (keysOf P).Nodup
 tn : ThrNd g
section
variable {tag : Nat → Tag} {w : World} {B q : Nat} {N : NetM} {g : G} {k : Nat}
theorem RLive.small (L : RLive tag B w q N g k) (hk : k ≤ 150) : Small g := ⟨by have := L.np; omega,by have := L.wt; omega⟩
theorem RLive.fl_len (L : RLive tag B w q N g k) (hk : k ≤ 150) : N.flight.length ≤ 9750 := by
 rw [L.abs.fl]
 have := fl_le g
 have := L.wt
 omega
theorem RLive.p32 (L : RLive tag B w q N g k) : N.places.length ≤ 32 := by rw [L.abs.plen]; exact L.abs.p32.2
theorem RLive.fr {S : Tag → Prop} {tag' : Nat → Tag} {w' : World} (L : RLive tag B w q N g k) (hf : Fr S tag tag' w w') (hS : ∀ t,S t → t.1 < B ∨ B + 32 < t.1) : RLive tag' B w' q N g k :=
 ⟨L.rep.fr hf (fun i r j hi hs => by have := hS _ hs; have := L.p32; simp at *; omega),L.abs,L.good,L.np,L.wt,hf.dom,L.nd,L.tn⟩
theorem RLive.frF {tag' : Nat → Tag} {w' : World} (L : RLive tag B w q N g k) (hf : Fr (fun _ => False) tag tag' w w') : RLive tag' B w' q N g k := L.fr hf (fun _ h => h.elim)
theorem RLive.more (L : RLive tag B w q N g k) {k' : Nat} (h : k ≤ k') : RLive tag B w q N g k' := ⟨L.rep,L.abs,L.good,by have := L.np; omega,by have := L.wt; have := Nat.mul_le_mul_left 65 h; omega,L.ok,L.nd,L.tn⟩
theorem RLive.well (L : RLive tag B w q N g k) (hk : k ≤ 150) {i : Nat} {P : PlaceM} (h : N.places[i]? = some P) : RWell P := by
 have hA := L.abs.place i P h
 have I := L.good
 refine ⟨L.abs.wf I h,L.nd i P h,fun j it hj => ?_,hA.out,hA.came⟩
 have hl : j < g.n := by have := (List.getElem?_eq_some_iff.1 hj).1; rw [hA.ilen] at this; exact this
 obtain ⟨it',h1,h2⟩ := hA.items j hl (hA.foreign j it hj)
 rw [hj] at h1
 injection h1 with h1
 injection h1 with h1
 subst h1
 have h3 := queue_len I (j : Int)
 have h4 := hist_len I (j : Int)
 have h5 := I.inv.vh j
 have h6 := (L.small hk).np
 have htl : (g.items j).thr.length ≤ g.np := nodup_len (L.tn j) (fun x hx => by
  obtain ⟨c,_,hc⟩ := I.inv.tcl j x hx
  have := I.inv.rng _ _ _ hc
  omega)
 have hq := h2.queue
 have hv := h2.ver
 have hthr := h2.thr
 rw [hq,List.length_map] at h3
 rw [hv] at h5
 rw [hthr] at htl
 refine ⟨by rw [← hq]; exact I.inv.qnd j,fun a ha => ?_,fun hh => ?_,by omega,by omega,by omega⟩
 ·rw [← hthr]
  exact I.inv.qt j a.prop (by rw [hq]; exact List.mem_map_of_mem ha)
 ·have hho : (g.items j).hold = some it.lk.prop := by rw [h2.hold,if_pos hh]
  obtain ⟨k1,k2⟩ := I.inv.hh j _ hho
  obtain ⟨c,_,hc⟩ := I.inv.hcl j _ hho
  have hr := I.inv.rng _ _ _ hc
  refine ⟨by rw [← hthr]; exact k1,fun a ha e => k2 ?_,hr.1⟩
  rw [hq,← e]
  exact List.mem_map_of_mem ha
def RDid (tag : Nat → Tag) (B : Nat) (w : World) (q k : Nat) (r : G × Int × List Came × Int) (cv : Value) (w' : World) : Prop :=
 ∃ (tag' : Nat → Tag) (N' : NetM),RLive tag' B w' q N' r.1 k ∧ Rd 3 w' cv r.2.2.1.length (cames r.2.2.1) ∧ Fr (fun t => B ≤ t.1 ∧ t.1 ≤ B + 33) tag tag' w w'
theorem RLive.idle (L : RLive tag B w q N g k) {w' : World} (hf : Fr (fun _ => False) tag tag w w') (r e : Int) : RDid tag B w q (k + 1) (g,r,[],e) (.slice none 0 0) w' :=
 ⟨tag,N,(L.frF hf).more (Nat.le_succ k),⟨rfl,by simp [cames],.inl ⟨rfl,rfl⟩⟩,hf.mono (fun _ h => h.elim)⟩
theorem RDid.pre {w1 : World} {r : G × Int × List Came × Int} {cv : Value} {w' : World} (hf : Fr (fun _ => False) tag tag w w1) (h : RDid tag B w1 q k r cv w') : RDid tag B w q k r cv w' := by
 obtain ⟨tag',N',h1,h3,h4⟩ := h
 exact ⟨tag',N',h1,h3,(hf.mono (fun _ h => h.elim)).trans h4⟩
theorem RDid.more {k' : Nat} {r : G × Int × List Came × Int} {cv : Value} {w' : World} (hk : k ≤ k') (h : RDid tag B w q k r cv w') : RDid tag B w q k' r cv w' := by
 obtain ⟨tag',N',h1,h3,h4⟩ := h
 exact ⟨tag',N',h1.more hk,h3,h4⟩
theorem nd_set {N : NetM} {p : Nat} {P' : PlaceM} (h : ∀ (i : Nat) (P : PlaceM),N.places[i]? = some P → (keysOf P).Nodup) (hP : (keysOf P').Nodup) : ∀ (i : Nat) (P : PlaceM),(N.places.set p P')[i]? = some P → (keysOf P).Nodup := by
 intro i P hi
 rw [List.getElem?_set] at hi
 split at hi
 ·split at hi
  ·injection hi with hi; subst hi; exact hP
  ·cases hi
 ·exact h i P hi
theorem takeN_places (N : NetM) (l : List Post) (cs : List Came) : (takeN N l cs).places = N.places := notes_places cs _
theorem rlive_propose {n : Int} {l : List Clm} {v : Value} (L : RLive tag B w q N g k) (hk : k < 150) (hx : RdX tag w v l) :
  Calls Tryz.prog 37 #[.pointer (some ⟨q,0,none⟩),.int .i64 n,v] w fun e w' => e = .returned (.tuple #[.int .i64 (doP g n l).2.1,.int .i64 (doP g n l).2.2.2]) ∧ RDid tag B w q (k + 1) (doP g n l) (.slice none 0 0) w' := by
 have hS := L.small (by omega)
 by_cases h1 : n < 0 ∨ (g.places : Int) ≤ n
 ·have hd : doP g n l = (g,0,[],271) := by rw [doP,if_pos h1]
  rw [hd]
  refine (rnpropose_place L.rep n v (by rw [L.abs.plen]; exact h1)).mono ?_
  rintro e w' ⟨rfl,hw⟩
  exact ⟨rfl,by rw [hw]; exact L.idle (Fr.refl L.ok) _ _⟩
 ·obtain ⟨p,rfl⟩ : ∃ p : Nat,n = p := ⟨n.toNat,by omega⟩
  have hpl : p < N.places.length := by rw [L.abs.plen]; omega
  have hp : N.places[p]? = some N.places[p] := List.getElem?_eq_getElem hpl
  have hA := L.abs.place p _ hp
  cases hc : claimedB g.n l with
  | false =>
   have hd : doP g p l = (g,0,[],270) := by rw [doP,if_neg h1,if_pos hc]
   rw [hd]
   refine (rnpropose_no L.rep L.ok hpl (fun pp w1 hf hP => ?_)).mono ?_
   ·rcases hx with ⟨hr,he⟩ | ⟨rfl,A,cap,rfl,hcap⟩
    ·exact rright_val l false (by rw [hA.slen]; exact hc) hP (hr.frF hf) hf.dom
    ·exact (rright_nil (k := 0) A cap w1).mono fun e w' ⟨a,b⟩ => ⟨a,by rw [b]; exact Fr.refl hf.dom⟩
   ·rintro e w' ⟨rfl,hw⟩
    exact ⟨rfl,L.idle hw _ _⟩
  | true =>
   obtain ⟨c,hc0⟩ := claimed_head hc
   have hl := claimed_of hc
   have hd : doP g p l = (g.proposeG p l c,(g.np : Int),[],0) := by rw [doP,if_neg h1,if_neg (by simp [hc]),hc0]
   rw [hd]
   obtain ⟨hr,he⟩ : Rd 2 w v l.length (claims l) ∧ Ext tag w v := by
    rcases hx with h | ⟨rfl,_⟩
    ·exact h
    ·simp at hc0
   obtain ⟨hab,hf1,hf2⟩ := L.abs.propose L.good 0 hp hl hc0
   have hnp := L.np
   refine (rnpropose_ok l L.rep L.ok hp L.p32 hr he (by rw [hA.slen]; exact hc) (by rw [L.abs.clen]; exact hf2) (by have := hA.plen; omega) hA.out hA.came
    (by rw [L.abs.clen]; omega) (by rw [L.abs.hlen]; omega) (by have := L.fl_len (by omega); omega) (by have := hl.len; omega) (by omega)).mono ?_
   rintro e w' ⟨rfl,tag',hN,hF⟩
   refine ⟨by rw [L.abs.clen],tag',_,⟨hN,hab,L.good.propose hl hc0,by show g.np + 1 ≤ _; omega,?_,hF.dom,?_,L.tn⟩,⟨rfl,by simp [cames],.inl ⟨rfl,rfl⟩⟩,hF⟩
   ·rw [wt_propose]
    have := L.wt
    have := hl.len.2
    show _ + 1 + l.length ≤ _
    omega
   ·rw [proposeN,takeN_places]
    refine nd_set L.nd ?_
    have hcl : l[0]? = some c := hc0
    have e : keysOf { proposeM N.places[p] N.claims.length l 0 with out := [],came := [] } = keysOf N.places[p] ++ [(N.claims.length : Int)] := by
     rw [proposeM_eq hcl]; simp [keysOf]
    rw [e]
    refine List.nodup_append.2 ⟨L.nd p _ hp,by simp,fun a ha b hb => ?_⟩
    rw [List.mem_singleton.1 hb,L.abs.clen]
    rintro rfl
    exact find_none_keys hf2 ha
theorem rlive_drop {n : Int} (L : RLive tag B w q N g k) (hk : k < 150) :
  Calls Tryz.prog 38 #[.pointer (some ⟨q,0,none⟩),.int .i64 n] w fun e w' => e = .returned (.int .i64 (doD g n).2.2.2) ∧ RDid tag B w q (k + 1) (doD g n) (.slice none 0 0) w' := by
 have hS := L.small (by omega)
 by_cases h1 : n < 0 ∨ (g.np : Int) ≤ n
 ·have hd : doD g n = (g,0,[],3) := by rw [doD,if_pos h1]
  rw [hd]
  refine (rndrop_none n L.rep (by rw [L.abs.clen]; rcases h1 with h | h <;> simp <;> omega)).mono ?_
  rintro e w' ⟨rfl,hw⟩
  exact ⟨rfl,by rw [hw]; exact L.idle (Fr.refl L.ok) _ _⟩
 ·obtain ⟨p,rfl⟩ : ∃ p : Nat,n = p := ⟨n.toNat,by omega⟩
  obtain ⟨r,P,x,hh,hh2,hp,hf,hx,e1,e2,e3⟩ := L.abs.at_prop (n:=p) (by omega)
  have hnp := L.np
  have hA := L.abs.place r P hp
  have hW := L.well (by omega) hp
  have hlen := L.good.inv.len p
  have hdl : (dropM P p x).out.length ≤ 1000 := by
   have hin : x.claims.length ≤ 64 := by rw [e1]; exact hlen
   unfold dropM
   split
   ·rw [hA.out]; simp
   ·simp only [PlaceM.send,List.length_append,List.length_singleton]
    have := (freeM_same (p : Int) (x.claims.take x.granted) (setProp P p { x with state := 4 })).2.2.2.2.2.2.1
    rw [this]
    have : (setProp P p { x with state := 4 }).out = [] := hA.out
    rw [this]
    simp only [List.length_nil]
    have := List.length_take_le' x.granted x.claims
    omega
  refine (rndrop_ok (n:=p) L.rep L.ok L.p32 (by rw [L.abs.clen]; omega) hh2 hp hf hW (by have := hA.plen; omega) hdl (by have := L.fl_len (by omega); omega)).mono ?_
  rintro e w' ⟨hno,hyes⟩
  by_cases hst : (g.props p).st = 1
  ·have hd : doD g p = (g.dropG p,0,[],0) := by rw [doD,if_neg h1,if_neg (by simp [hst])]
   rw [hd]
   obtain ⟨rfl,tag',hN,hF⟩ := hyes (by rw [e2]; exact hst)
   refine ⟨rfl,tag',_,⟨hN,(L.abs.drop L.good (by omega) hst hh hp hx).1,L.good.drop hst,by show g.np ≤ _; omega,?_,hF.dom,?_,L.tn⟩,⟨rfl,by simp [cames],.inl ⟨rfl,rfl⟩⟩,hF⟩
   ·have := wt_drop W1_ok L.good hst; have := L.wt; simp only; omega
   ·rw [dropN,takeN_places]
    refine nd_set L.nd ?_
    have hgl := L.good.inv.got1 p (.inl hst)
    obtain ⟨c,hc⟩ : ∃ c,x.claims[x.granted]? = some c := ⟨_,List.getElem?_eq_getElem (by rw [e1,e3]; exact hgl)⟩
    have e : keysOf { dropM P p x with out := [],came := [] } = keysOf P := by
     rw [dropM_eq hc]; exact upd_keys _ _ _
    rw [e]
    exact L.nd r P hp
  ·have hd : doD g p = (g,0,[],273) := by rw [doD,if_neg h1,if_pos hst]
   rw [hd]
   obtain ⟨rfl,hF⟩ := hno (by rw [e2]; exact hst)
   exact ⟨rfl,L.idle hF _ _⟩
theorem rlive_deliver {n : Int} (L : RLive tag B w q N g k) (hk : k ≤ 150) :
  Calls Tryz.prog 39 #[.pointer (some ⟨q,0,none⟩),.int .i64 n] w fun e w' => ∃ cv,e = .returned (.tuple #[cv,.int .i64 (doL g n).2.2.2]) ∧ RDid tag B w q k (doL g n) cv w' := by
 have hS := L.small (by omega)
 by_cases h1 : n < 0 ∨ (g.fl.length : Int) ≤ n
 ·have hd : doL g n = (g,0,[],272) := by rw [doL,if_pos h1]
  rw [hd]
  refine (rdeliver_out n L.rep (by rw [L.abs.fl]; exact h1)).mono ?_
  rintro e w' ⟨rfl,hw⟩
  exact ⟨_,rfl,tag,N,by rw [hw]; exact L,⟨rfl,by simp [cames],.inl ⟨rfl,rfl⟩⟩,by rw [hw]; exact Fr.refl L.ok⟩
 ·obtain ⟨i,rfl⟩ : ∃ p : Nat,n = p := ⟨n.toNat,by omega⟩
  obtain ⟨m,hm⟩ : ∃ m,g.fl[i]? = some m := ⟨_,List.getElem?_eq_getElem (by omega)⟩
  have hd : doL g i = (g.deliverG i m,0,(g.takeG m).2.2,0) := by rw [doL,if_neg h1,Int.toNat_natCast,hm]
  rw [hd]
  have hmem := List.mem_of_getElem? hm
  have hi : N.flight[i]? = some m := by rw [L.abs.fl]; exact hm
  have R := L.good.route m hmem
  obtain ⟨k1,k2,c,_,hc⟩ := L.good.inv.mcl _ _ _ (has_mem hmem)
  obtain ⟨p0,pn,j0,jn⟩ := L.good.inv.rng _ _ _ hc
  have hdst : 0 ≤ m.dst ∧ m.dst < g.places := by
   by_cases e : m.kind = 2 ∨ m.kind = 3
   ·rw [(R.dst.1 e).2]; exact L.abs.homer _ p0 pn
   ·rw [(R.dst.2 (fun x => e (.inl x)) (fun x => e (.inr x))).2]; exact L.abs.siter _ j0 jn
  obtain ⟨p,hp⟩ := Int.eq_ofNat_of_zero_le hdst.1
  have hpl : p < N.places.length := by rw [L.abs.plen]; omega
  have hP : N.places[p]? = some N.places[p] := List.getElem?_eq_getElem hpl
  have hW := L.well hk hP
  obtain ⟨hv,hpr,hit⟩ := L.abs.valid L.good hS hP hmem hp
  obtain ⟨hab,hcame⟩ := L.abs.deliver L.good hi hp hP
  have hA := L.abs.place p _ hP
  have T := take_abs hA L.good hmem hp
  have hol := takeG_out_len L.good m
  have hnp := L.np
  have hcl : (takeM N.places[p] m).came.length ≤ 1 := by
   rw [hcame]
   have hC := takeG_cames (g := g) m
   generalize (g.takeG m).1 = g1 at hC
   generalize (g.takeG m).2.2 = cs at hC
   cases hC <;> simp
  have hcit : ∀ c ∈ (takeM N.places[p] m).came,c.kind = 3 → ∃ j : Nat,c.item = j ∧ j < N.history.length := by
   rw [hcame]
   have hC := takeG_cames (g := g) m
   generalize (g.takeG m).1 = g1 at hC
   generalize (g.takeG m).2.2 = cs at hC
   cases hC with
   | none => simp
   | done => simp
   | not => simp
   | moved =>
    intro c hc hk3
    rw [List.mem_singleton.1 hc]
    obtain ⟨j,hj⟩ := Int.eq_ofNat_of_zero_le j0
    exact ⟨j,hj,by rw [L.abs.ylen]; omega⟩
  refine (rdeliver_ok L.rep L.ok hi hp hP hv hW hpr hit L.p32 (by have := hA.plen; omega) (by have := L.fl_len (by omega); omega) (by rw [T.out]; omega) (by omega) hcit (by rw [L.abs.dec]; have := dec_len L.good; omega) (fun j => by have := getD_hist L.abs L.good j; omega)).mono ?_
  rintro e w' ⟨cv,rfl,tag',hN,hcv,hF⟩
  obtain ⟨s1,s2,s3,s4,s5,s6,s7⟩ := takeG_same (g := g) m
  refine ⟨cv,rfl,tag',_,⟨hN,hab,L.good.deliver hm,by show (g.takeG m).1.np ≤ _; rw [s4]; omega,?_,hF.dom,?_,fun j => takeG_thr L.tn m j⟩,?_,hF⟩
  ·have := wt_deliver W1_ok L.good hm; have := L.wt; simp only; omega
  ·rw [deliverN,takeN_places]
   refine nd_set L.nd ?_
   have e : keysOf { takeM N.places[p] m with out := [],came := [] } = keysOf N.places[p] := takeM_keys _ _
   rw [e]
   exact L.nd p _ hP
  ·rw [hcame] at hcv; exact hcv.rd (cames_one _)
theorem rlive_double {n : Int} (L : RLive tag B w q N g k) (hk : k < 150) :
  Calls Tryz.prog 40 #[.pointer (some ⟨q,0,none⟩),.int .i64 n] w fun e w' => e = .returned (.int .i64 (doB g n).2.2.2) ∧ RDid tag B w q (k + 1) (doB g n) (.slice none 0 0) w' := by
 by_cases h1 : n < 0 ∨ (g.fl.length : Int) ≤ n
 ·have hd : doB g n = (g,0,[],272) := by rw [doB,if_pos h1]
  rw [hd]
  refine (rdouble_out n L.rep (by rw [L.abs.fl]; exact h1)).mono ?_
  rintro e w' ⟨rfl,hw⟩
  exact ⟨rfl,by rw [hw]; exact L.idle (Fr.refl L.ok) _ _⟩
 ·obtain ⟨i,rfl⟩ : ∃ p : Nat,n = p := ⟨n.toNat,by omega⟩
  obtain ⟨m,hm⟩ : ∃ m,g.fl[i]? = some m := ⟨_,List.getElem?_eq_getElem (by omega)⟩
  have hd : doB g i = ({ g with fl := g.fl ++ [m] },0,[],0) := by rw [doB,if_neg h1,Int.toNat_natCast,hm]
  rw [hd]
  refine (rdouble_ok L.rep L.ok (by rw [L.abs.fl]; exact hm) (by have := L.fl_len (by omega); omega) L.p32).mono ?_
  rintro e w' ⟨rfl,tag',hN,hF⟩
  have hnp := L.np
  refine ⟨rfl,tag',_,⟨hN,L.abs.double,L.good.double (List.mem_of_getElem? hm),by show g.np ≤ _; omega,?_,hF.dom,L.nd,L.tn⟩,⟨rfl,by simp [cames],.inl ⟨rfl,rfl⟩⟩,hF.mono (fun t h => by omega)⟩
  rw [wt_double]
  have h2 : W1.of m = 1 := by simp [Wt.of,W1]
  have := L.wt
  omega
set_option maxRecDepth 100000 in
set_option maxHeartbeats 1600000 in
theorem did_ok (o : OpM) {v : Value} (L : RLive tag B w q N g k) (hk : k < 150) (hr : RdX tag w v o.claims) :
  Calls Tryz.prog 11 #[.pointer (some ⟨q,0,none⟩),.agg #[.int .i64 o.kind,.int .i64 o.n,v]] w fun e w' => ∃ cv,e = .returned (.tuple #[.int .i64 (doG g o).2.1,cv,.int .i64 (doG g o).2.2.2]) ∧ RDid tag B w q (k + 1) (doG g o) cv w' := by
 obtain ⟨ok,on,oc⟩ := o
 simp only at hr ⊢
 obtain ⟨VA,vcap,rfl,q2⟩ := hr.slice
 have hF : Fr (fun _ => False) tag tag w (w.alloc (.cells #[.int .i64 ok,.int .i64 on,.slice VA oc.length vcap] 39)) := Fr.alloc L.ok _
 have HL := Lib.hid (L.frF hF)
 have HR := Lib.hid (hr.frF hF)
 have HF := Lib.hid hF
 have HL0 := Lib.hid L
 clear L hr hF
 by_cases h0 : ok = 0
 ·subst h0
  have hd : doG g ⟨0,on,oc⟩ = doP g on oc := rfl
  rw [hd]
  clear hd
  have HC := Lib.hid (rlive_propose (n:=on) HL.out hk HR.out)
  go_enter Tryz.func11,Tryz.ntmps11
  go_wp2_with (go_at_call 37; refine HC.out.mono ?_; rintro e w' ⟨rfl,hD⟩; have HD := Lib.hid hD; clear hD)
  go_ret3
  exact ⟨_,rfl,HD.out.pre HF.out⟩
 ·have h0' : (ok == 0) = false := by rw [beq_eq_false_iff_ne]; exact h0
  by_cases h1 : ok = 1
  ·subst h1
   have hd : doG g ⟨1,on,oc⟩ = doD g on := rfl
   have hn : (doD g on).2.1 = 0 := by unfold doD; split <;> (try split) <;> rfl
   rw [hd,hn]
   clear hd hn h0
   have HC := Lib.hid (rlive_drop (n:=on) HL.out hk)
   go_enter Tryz.func11,Tryz.ntmps11
   go_wp2_with (go_at_call 38; refine HC.out.mono ?_; rintro e w' ⟨rfl,hD⟩; have HD := Lib.hid hD; clear hD)
   go_ret3
   exact ⟨_,rfl,HD.out.pre HF.out⟩
  ·have h1' : (ok == 1) = false := by rw [beq_eq_false_iff_ne]; exact h1
   by_cases h2 : ok = 2
   ·subst h2
    have hd : doG g ⟨2,on,oc⟩ = doL g on := rfl
    have hn : (doL g on).2.1 = 0 := by unfold doL; split <;> (try split) <;> rfl
    rw [hd,hn]
    clear hd hn h0 h1
    have HC := Lib.hid (rlive_deliver (n:=on) HL.out (by omega))
    go_enter Tryz.func11,Tryz.ntmps11
    go_wp2_with (go_at_call 39; refine HC.out.mono ?_; rintro e w' ⟨cv,rfl,hD⟩; have HD := Lib.hid hD; clear hD)
    go_ret3
    exact ⟨cv,rfl,(HD.out.pre HF.out).more (Nat.le_succ k)⟩
   ·have h2' : (ok == 2) = false := by rw [beq_eq_false_iff_ne]; exact h2
    by_cases h3 : ok = 3
    ·subst h3
     have hd : doG g ⟨3,on,oc⟩ = doB g on := rfl
     have hn : (doB g on).2.1 = 0 := by unfold doB; split <;> (try split) <;> rfl
     rw [hd,hn]
     clear hd hn h0 h1 h2
     have HC := Lib.hid (rlive_double (n:=on) HL.out hk)
     go_enter Tryz.func11,Tryz.ntmps11
     go_wp2_with (go_at_call 40; refine HC.out.mono ?_; rintro e w' ⟨rfl,hD⟩; have HD := Lib.hid hD; clear hD)
     go_ret3
     exact ⟨_,rfl,HD.out.pre HF.out⟩
    ·have h3' : (ok == 3) = false := by rw [beq_eq_false_iff_ne]; exact h3
     have hd : doG g ⟨ok,on,oc⟩ = (g,0,[],0) := by simp [doG,h0,h1,h2,h3]
     rw [hd]
     clear hd h0 h1 h2 h3
     go_enter Tryz.func11,Tryz.ntmps11
     go_wp2_with fail
     go_ret3
     exact ⟨_,rfl,HL0.out.idle HF.out _ _⟩
end
section
variable {tag : Nat → Tag} {k p j : Nat} {P : PlaceM} {it : ItemM} {w : World}
theorem rown_at {s : Int} {c : Bool} (h : RPRep tag k w p P) (hok : TagOk tag w) (hj : P.sites[j]? = some s) (hc : (s == P.no) = c) :
  Calls Tryz.prog 93 #[.pointer (some ⟨p,0,none⟩),.int .i64 (j : Int)] w fun e w' => e = .returned (.bool c) ∧ Fr (fun _ => False) tag tag w w' := by
 obtain ⟨av,iv,pv,h1,h2,_,_⟩ := h.cells
 have hjl := (List.getElem?_eq_some_iff.1 hj).1
 obtain ⟨b,cap,rfl,hl1,hl2,hsc⟩ := PRep.site_cell h2 hjl
 unfold maxLen at hl2
 have hss : P.site (j : Int) = s := by
  unfold PlaceM.site
  rw [List.getD_eq_getElem?_getD]
  simp [hj]
 rw [hss] at hsc
 have c0 : w.cell? ⟨p,0,none⟩ = some (.int .i64 P.no) := cell_of h1 0
 have c1 : w.cell? ⟨p,1,none⟩ = some (.slice (some ⟨b,0,none⟩) P.sites.length cap) := cell_of h1 1
 have hpl := lt_of_heap h1
 have hbl := World.block_lt_of_cell? w _ hsc
 have i1 : (0 : Int) ≤ (j : Int) := by omega
 have i2 : (j : Int) < (P.sites.length : Int) := by omega
 clear h h1 h2 hj hss
 go_enter Tryz.func93,Tryz.ntmps93
 go_wp2_with fail
 go_quiet (fail)
 go_wp2
 go_ret
 exact ⟨rfl,(Fr.refl hok).dN _⟩
def Z128 : Obj := .cells #[.int .i64 0,.int .i64 0,.slice none 0 0,.slice none 0 0] 91 (0,0)
theorem four_cells {w1 : World} {b1 : Nat} {a0 a1 a2 a3 x0 x1 x2 x3 : Value} (h : w1.heap[b1]? = some (.cells #[a0,a1,a2,a3] 91 (0,0))) {wz : World}
  (hz : wz = (((w1.setCell ⟨b1,0,none⟩ x0).setCell ⟨b1,1,none⟩ x1).setCell ⟨b1,2,none⟩ x2).setCell ⟨b1,3,none⟩ x3) :
  wz.cell? ⟨b1,0,none⟩ = some x0 ∧ wz.cell? ⟨b1,1,none⟩ = some x1 ∧ wz.cell? ⟨b1,2,none⟩ = some x2 ∧ wz.cell? ⟨b1,3,none⟩ = some x3 := by
 have hzz : wz.heap[b1]? = some (.cells #[x0,x1,x2,x3] 91 (0,0)) := by
  rw [hz,Go.Ng.heap_setCell_same (Go.Ng.heap_setCell_same (Go.Ng.heap_setCell_same (Go.Ng.heap_setCell_same h 0 _) 1 _) 2 _) 3 _]
  rfl
 exact ⟨cell_of hzz 0,cell_of hzz 1,cell_of hzz 2,cell_of hzz 3⟩
set_option maxRecDepth 100000 in
set_option maxHeartbeats 1600000 in
theorem ritem_ok (h : RPRep tag k w p P) (hok : TagOk tag w) (hj : P.items[j]? = some (some it)) (hs : P.sites[j]? = some P.no) :
  Calls Tryz.prog 72 #[.pointer (some ⟨p,0,none⟩),.int .i64 (j : Int)] w fun e w' => ∃ WA wcap TA tlen tcap,e = .returned (.tuple #[.agg #[.int .i64 it.version,.int .i64 (if it.held = true then it.lk.prop else -1),.slice WA it.queue.length wcap,.slice TA tlen tcap],.int .i64 0]) ∧
   ORow tag (k,6,(j : Int)) 2 w' (.slice WA it.queue.length wcap) it.queue.length (askers it.queue) ∧ Fr (fun _ => False) tag tag w w' := by
 obtain ⟨av,iv,pv,h1,h2,⟨its,h3,h4,h5⟩,hprs⟩ := h.cells
 obtain ⟨IA,icap,rfl,q1,q2⟩ := h4.form
 unfold maxLen at q2
 have hjl := (List.getElem?_eq_some_iff.1 hj).1
 obtain ⟨⟨xv,xh,xw,xt⟩,hx⟩ : ∃ c,its[j]? = some c := ⟨_,List.getElem?_eq_getElem (by omega)⟩
 have hri : RItem tag k w j it _ := h5 j _ _ hj hx
 obtain ⟨ib,hib,hit,his,hce⟩ := Row.elem (enc := RIt.cells) h4 (fun _ => rfl) (by decide) hx
 subst hib
 obtain ⟨rv,rh,rw',rt⟩ := hri
 simp only at rv rh rw' rt
 subst rv
 rw [← rh]
 clear rh
 obtain ⟨WA,wcap,rfl,s1,s2⟩ := rw'.slice
 obtain ⟨TA,tcap,rfl,t1,t2⟩ := rt.form
 have i1 : (0 : Int) ≤ (j : Int) := by omega
 have i2 : (j : Int) < (its.length : Int) := by omega
 have H := Lib.hid h
 have H1 := Lib.hid h1
 have HCE := Lib.hid hce
 have HRW := Lib.hid rw'
 have HS := Lib.hid hs
 have HPT := Lib.hid h.ptr
 clear h h1 h2 h3 h4 h5 hprs hj hx hce rw' rt hs
 go_enter Tryz.func72,Tryz.ntmps72
 go_upto_region 1 with fail
 obtain ⟨w1,hw1⟩ : ∃ yy,yy = w.alloc (.cells #[.int .i64 0,.int .i64 0,.slice none 0 0,.slice none 0 0] 91) := ⟨_,rfl⟩
 rw [← hw1]
 obtain ⟨b1,hb1⟩ : ∃ yy,yy = w.heap.size := ⟨_,rfl⟩
 rw [← hb1]
 have hwb : w.heap.size ≤ b1 := by omega
 have HF1 : Hid (Fr (fun _ => False) tag tag w w1) := Lib.hid (by rw [hw1]; exact (Fr.refl hok).al _)
 have HZ1 : Hid (w1.heap[b1]? = some (.cells #[.int .i64 0,.int .i64 0,.slice none 0 0,.slice none 0 0] 91 (0,0))) := Lib.hid (by rw [hw1,hb1]; exact heap_alloc_at _ _)
 have HP1 := Lib.hid (H.out.frF HF1.out)
 have hok1 := HF1.out.dom
 clear hw1 hb1
 go_upto_region 4 with (
  go_at_call 93
  refine (rown_at HP1.out hok1 HS.out (c := true) (by simp)).mono ?_
  rintro e w2 ⟨rfl,hF2⟩
  have HF2 := Lib.hid (HF1.out.trans hF2)
  have HZ2 := Lib.hid (hF2.heap HZ1.out (fun x => x))
  clear hF2)
 have g2 : w2.cell? ⟨p,2,none⟩ = some (.slice (some ⟨ib,0,none⟩) its.length icap) := HF2.out.cellF (cell_of H1.out 2)
 have e0 : w2.cell? ⟨ib,j * 4,none⟩ = some (.int .i64 it.version) := HF2.out.cellF (HCE.out 0 _ rfl)
 have e1 : w2.cell? ⟨ib,j * 4 + 1,none⟩ = some (.int .i64 xh) := HF2.out.cellF (HCE.out 1 _ rfl)
 have e2 : w2.cell? ⟨ib,j * 4 + 2,none⟩ = some (.slice WA it.queue.length wcap) := HF2.out.cellF (HCE.out 2 _ rfl)
 have e3 : w2.cell? ⟨ib,j * 4 + 3,none⟩ = some (.slice TA it.through.length tcap) := HF2.out.cellF (HCE.out 3 _ rfl)
 have r0 : w2.cell? ⟨b1,0,none⟩ = some (.int .i64 0) := cell_of HZ2.out 0
 have r1 : w2.cell? ⟨b1,1,none⟩ = some (.int .i64 0) := cell_of HZ2.out 1
 have r2 : w2.cell? ⟨b1,2,none⟩ = some (.slice none 0 0) := cell_of HZ2.out 2
 have r3 : w2.cell? ⟨b1,3,none⟩ = some (.slice none 0 0) := cell_of HZ2.out 3
 have rz0 := free_of HZ2.out 0
 have rz1 := free_of HZ2.out 1
 have rz2 := free_of HZ2.out 2
 have rz3 := free_of HZ2.out 3
 go_wp2_with fail
 obtain ⟨wz,hwz⟩ : ∃ yy,yy = (((w2.setCell ⟨b1,0,none⟩ (.int .i64 it.version)).setCell ⟨b1,1,none⟩ (.int .i64 xh)).setCell ⟨b1,2,none⟩ (.slice WA it.queue.length wcap)).setCell ⟨b1,3,none⟩ (.slice TA it.through.length tcap) := ⟨_,rfl⟩
 rw [← hwz]
 obtain ⟨rr0,rr1,rr2,rr3⟩ := four_cells HZ2.out hwz
 have hF : Fr (fun _ => False) tag tag w wz := by rw [hwz]; exact (((HF2.out.scn hwb _ _).scn hwb _ _).scn hwb _ _).scn hwb _ _
 refine bodyPost_ret (v:=.tuple #[.agg #[.int .i64 it.version,.int .i64 xh,.slice WA it.queue.length wcap,.slice TA it.through.length tcap],.int .i64 0]) (by simp [results,Tryz.results72,go_sem,rr0,rr1,rr2,rr3]) rfl ?_
 exact ⟨WA,wcap,TA,_,tcap,rfl,HRW.out.fr hF (fun x => x),hF⟩
set_option maxRecDepth 100000 in
set_option maxHeartbeats 1600000 in
theorem rwaiting_ok {q : List Asker} {a0 a1 : Int} {WA TA : Option Addr} {wcap tl tcap : Nat} {t0 t : Tag} (hr : ORow tag t0 2 w (.slice WA q.length wcap) q.length (askers q)) (hok : TagOk tag w) (hq : q.length ≤ 100000) (ht : ∀ b,b < w.heap.size → tag b ≠ t) (ht0 : t.1 ≠ 0) :
  Calls Tryz.prog 47 #[.agg #[.int .i64 a0,.int .i64 a1,.slice WA q.length wcap,.slice TA tl tcap]] w fun e w' => ∃ v,e = .returned v ∧ ∃ tag',Row tag' t 3 1 w' v q.length (ints (q.map (·.prop))) ∧ Fr (fun _ => False) tag tag' w w' := by
 obtain ⟨i0,hi,hz0,hz1,hz2⟩ := info_parts Tryz.info3
 have HQ := Lib.hid hr
 have hcap : wcap ≤ 2 ^ 63 - 1 := by
  obtain ⟨A,cap,hv,_,h2⟩ := hr.slice
  injection hv with _ _ hv
  subst hv
  exact h2
 clear hr
 go_enter Tryz.func47,Tryz.ntmps47
 go_upto_region 1 with fail
 obtain ⟨w1,hw1⟩ : ∃ yy,yy = w.alloc (.cells #[.int .i64 a0,.int .i64 a1,.slice WA q.length wcap,.slice TA tl tcap] 91) := ⟨_,rfl⟩
 rw [← hw1]
 obtain ⟨b1,hb1⟩ : ∃ yy,yy = w.heap.size := ⟨_,rfl⟩
 rw [← hb1]
 have hwb : w.heap.size ≤ b1 := by omega
 have HF1 : Hid (Fr (fun _ => False) tag tag w w1) := Lib.hid (by rw [hw1]; exact (Fr.refl hok).al _)
 have z2 : w1.cell? ⟨b1,2,none⟩ = some (.slice WA q.length wcap) := by rw [hw1,hb1]; go_simp
 have HTB : Hid (tag b1 ≠ t) := Lib.hid (fun e => ht0 (by rw [← e]; exact tag_new hok hwb))
 clear hw1 hb1
 have Z2 := Lib.hid z2
 clear z2
 go_wp2_with fail
 go_loopw [4,3] (fun i v wr => ∃ n : Nat,n ≤ q.length ∧ i = .int .i64 n ∧ ∃ A2 cap2,v = .slice A2 n cap2 ∧ ∃ tagr,Hid (Row tagr t 3 1 wr (.slice A2 n cap2) n (ints ((q.take n).map (·.prop)))) ∧ Hid (Fr (· = t) tag tagr w1 wr)) (fun i _ _ => q.length - (intOf i).toNat)
 case atStart => exact ⟨0,Nat.zero_le _,rfl,none,0,rfl,tag,Lib.hid (Row.nil _ _ _ _ _),Lib.hid (Fr.refl HF1.out.dom)⟩
 case round =>
  obtain ⟨n,hn,rfl,A2,cap2,rfl,tagr,HR,HG⟩ := hrel
  have HF := Lib.hid (((HF1.out.mono (S' := (· = t)) (fun _ h => h.elim)).trans HG.out).fresh ht)
  have z2 : wr.cell? ⟨b1,2,none⟩ = some (.slice WA q.length wcap) := HG.out.cell Z2.out HTB.out
  by_cases hlt : n < q.length
  ·obtain ⟨⟨ap,al⟩,hx⟩ : ∃ c,q[n]? = some c := ⟨_,List.getElem?_eq_getElem hlt⟩
   obtain ⟨qb,qoff,qcap,hv,_,_,hce⟩ := Rd.elem (enc := Asker.cells) HQ.out.rd (fun _ => rfl) (by decide) hx
   injection hv with hv _ hv2
   subst hv hv2
   have e0 : wr.cell? ⟨qb,qoff + n * 2,none⟩ = some (.int .i64 ap) := HF.out.cellF (hce 0 _ rfl)
   have htk : q.take (n + 1) = q.take n ++ [⟨ap,al⟩] := by
    rw [List.take_succ_eq_append_getElem hlt]
    congr 2
    exact (List.getElem?_eq_some_iff.1 hx).2
   have HT := Lib.hid htk
   have i5 : (0 : Int) ≤ (n : Int) := by omega
   have i6 : (n : Int) < (q.length : Int) := by omega
   have hokr := HF.out.dom
   have hbw := World.block_lt_of_cell? wr _ z2
   clear hx hce htk
   go_wp2_with (at_builtin; refine append_list rfl (.tmp 12) (.tmp 19) 22 rfl (by rfl) (by rfl) (HR.out.alloc _) (hokr.alloc _) Tryz.underlying22 hi hz0 hz1 hz2 rfl (by decide) [.int .i64 ap] rfl (news_at (heap_alloc_at _ _)) (by simp [Value.oneCell']) (by decide) (by unfold maxLen; omega) (by omega) ?_; intro g cap3 w3 tag3 hrow hfr)
   go_roundw
   case rel =>
    refine ⟨n + 1,by omega,by go_num,_,_,rfl,tag3,Lib.hid ?_,Lib.hid ((HG.out.al _).trans hfr)⟩
    rw [HT.out,List.map_append,List.map_cons,List.map_nil,ints_snoc]
    exact hrow
   case measure => simp [intOf]; omega
  ·have : n = q.length := by omega
   subst this
   go_wp2
   go_ret
   refine ⟨_,rfl,tagr,?_,HF.out⟩
   have := HR.out
   rw [List.take_length] at this
   exact this
end
section
variable {tag : Nat → Tag} {w : World} {B q p k : Nat} {N : NetM} {P P0 : PlaceM} {g : G}
theorem rstatus_some {n : Int} {x : PropM} (hP : RPRep tag k w p P) (hf : find P.props n = some x) :
  Calls Tryz.prog 73 #[.pointer (some ⟨p,0,none⟩),.int .i64 n] w fun e w' => e = .returned (.tuple #[.int .i64 x.state,.int .i64 0]) ∧ w' = w := by
 obtain ⟨i,hi,hix⟩ := find_idx hf
 obtain ⟨av,iv,pv,g1,g2,g3,prs,g6,g7,g8⟩ := hP.cells
 obtain ⟨PA,pcap,rfl,q1,q2⟩ := g7.form
 unfold maxLen at q2
 have hil : i < prs.length := by have := (List.getElem?_eq_some_iff.1 hi).1; omega
 obtain ⟨⟨xn,xc,xs,xg⟩,hx⟩ : ∃ c,prs[i]? = some c := ⟨_,List.getElem?_eq_getElem hil⟩
 have hs0 : xs = x.state := (g8 i n x _ hi hx).st
 subst hs0
 obtain ⟨pb,hpv,hpt,hps,hce⟩ := Row.elem (enc := RPr.cells) g7 (fun _ => rfl) (by decide) hx
 subst hpv
 have c3 : w.cell? ⟨p,3,none⟩ = some (.slice (some ⟨pb,0,none⟩) prs.length pcap) := cell_of g1 3
 have e2 : w.cell? ⟨pb,i * 4 + 2,none⟩ = some (.int .i64 x.state) := hce 2 _ rfl
 have i1 : (0 : Int) ≤ (i : Int) := by omega
 have i2 : (i : Int) < (prs.length : Int) := by omega
 have HC := Lib.hid (rfind_val n i hix hP)
 clear hP hf hi hix g1 g2 g3 g6 g7 g8 hx hce hpt hps
 go_enter Tryz.func73,Tryz.ntmps73
 go_wp2_with (go_at_call 67; refine HC.out.mono ?_; rintro e w5 ⟨rfl,h5⟩; replace h5 := h5.symm; subst h5)
 go_ret2
 exact ⟨rfl,rfl⟩
set_option maxRecDepth 100000 in
set_option maxHeartbeats 3200000 in
theorem rnitem_ok {j : Nat} {it : ItemM} (h : RNRep tag B w q N) (hok : TagOk tag w) (hj : j < N.history.length) (hp0 : N.places[0]? = some P0) (hs0 : P0.sites[j]? = some (p : Int)) (hp : N.places[p]? = some P) (hit : P.items[j]? = some (some it)) (hsi : P.sites[j]? = some P.no) :
  Calls Tryz.prog 46 #[.pointer (some ⟨q,0,none⟩),.int .i64 (j : Int)] w fun e w' => ∃ WA wcap TA tlen tcap,e = .returned (.tuple #[.agg #[.int .i64 it.version,.int .i64 (if it.held = true then it.lk.prop else -1),.slice WA it.queue.length wcap,.slice TA tlen tcap],.int .i64 0]) ∧
   ORow tag (B + 1 + p,6,(j : Int)) 2 w' (.slice WA it.queue.length wcap) it.queue.length (askers it.queue) ∧ Fr (fun _ => False) tag tag w w' := by
 obtain ⟨pv,fv,cv,hv',yv,dv,hce,⟨ps,p1,p2,p3⟩,h4,_,h7,⟨yvs,h8,_⟩,_⟩ := h.cells
 obtain ⟨PA,pcap,rfl,q1,q2⟩ := p2.form
 obtain ⟨YA,ycap,rfl,q3,q4⟩ := h8.form
 unfold maxLen at q2 q4
 have hpw := (List.getElem?_eq_some_iff.1 hp).1
 have hpz := (List.getElem?_eq_some_iff.1 hp0).1
 obtain ⟨pp,hpp⟩ : ∃ c,ps[p]? = some c := ⟨_,List.getElem?_eq_getElem (by omega)⟩
 obtain ⟨p0,hpp0⟩ : ∃ c,ps[0]? = some c := ⟨_,List.getElem?_eq_getElem (by omega)⟩
 obtain ⟨pb,rfl,_,_,hpc⟩ := p2.cell rfl (j:=p) (by simp [p1]; omega)
 obtain ⟨pb',hpb',_,_,hpc0⟩ := p2.cell rfl (j:=0) (by simp [p1]; omega)
 injection hpb' with hpb'
 injection hpb' with hpb'
 subst hpb'
 have hrp := p3 p pp P hpp hp
 have hrp0 := p3 0 p0 P0 hpp0 hp0
 obtain ⟨av,iv,ppv,g1,g2,_,_⟩ := hrp0.cells
 obtain ⟨SA,scap,rfl,z1,z2⟩ := g2.form
 unfold maxLen at z2
 have hsl := (List.getElem?_eq_some_iff.1 hs0).1
 obtain ⟨sb,rfl,_,_,hsc⟩ := g2.cell rfl (j:=j) (by rw [ints_len]; exact hsl)
 have c0 : w.cell? ⟨q,0,none⟩ = some (.slice (some ⟨pb,0,none⟩) N.places.length pcap) := cell_of hce 0
 have c4 : w.cell? ⟨q,4,none⟩ = some (.slice YA N.history.length ycap) := cell_of hce 4
 have e0 : w.cell? ⟨pb,0,none⟩ = some (.pointer (some ⟨p0,0,none⟩)) := by rw [hpc0]; simp [hpp0,rptr]
 have e1 : w.cell? ⟨pb,p,none⟩ = some (.pointer (some ⟨pp,0,none⟩)) := by rw [hpc]; simp [hpp,rptr]
 have e2 : w.cell? ⟨p0,1,none⟩ = some (.slice (some ⟨sb,0,none⟩) P0.sites.length scap) := cell_of g1 1
 have e3 : w.cell? ⟨sb,j,none⟩ = some (.int .i64 (p : Int)) := by rw [hsc]; simp [ints,hs0]
 have i1 : (0 : Int) ≤ (p : Int) := by omega
 have i2 : (p : Int) < (N.places.length : Int) := by omega
 have i3 : (0 : Int) ≤ (j : Int) := by omega
 have i4 : (j : Int) < (N.history.length : Int) := by omega
 have i5 : (j : Int) < (P0.sites.length : Int) := by omega
 have i6 : decide ((j : Int) < 0) = false := by simp
 have i7 : decide ((N.history.length : Int) ≤ (j : Int)) = false := by simp; omega
 have i8 : (0 : Int) < (N.places.length : Int) := by omega
 have i9 : 0 < N.places.length := by omega
 have hqw := lt_of_heap hce
 have HRP := Lib.hid hrp
 have hri := fun (W : World) (hP : RPRep tag (B + 1 + p) W pp P) (hk : TagOk tag W) => ritem_ok hP hk hit hsi
 obtain ⟨xh,hxh⟩ : ∃ y : Int,y = if it.held = true then it.lk.prop else -1 := ⟨_,rfl⟩
 rw [← hxh] at hri ⊢
 have HRI := Lib.hid hri
 clear hri hxh
 clear h hce p1 p2 p3 h4 h7 h8 hpc hpc0 hp hp0 hpp hpp0 hrp hrp0 g1 g2 hsc hs0 hit hsi hj hsl
 go_enter Tryz.func46,Tryz.ntmps46
 go_upto_region 5 with fail
 obtain ⟨w1,hw1⟩ : ∃ yy,yy = w.alloc (.cells #[.int .i64 0,.int .i64 0,.slice none 0 0,.slice none 0 0] 91) := ⟨_,rfl⟩
 rw [← hw1]
 obtain ⟨b1,hb1⟩ : ∃ yy,yy = w.heap.size := ⟨_,rfl⟩
 rw [← hb1]
 have hwb : w.heap.size ≤ b1 := by omega
 have HF1 : Hid (Fr (fun _ => False) tag tag w w1) := Lib.hid (by rw [hw1]; exact (Fr.refl hok).al _)
 have HZ1 : Hid (w1.heap[b1]? = some (.cells #[.int .i64 0,.int .i64 0,.slice none 0 0,.slice none 0 0] 91 (0,0))) := Lib.hid (by rw [hw1,hb1]; exact heap_alloc_at _ _)
 have k0 := HF1.out.cellF c0
 have k1 := HF1.out.cellF e0
 have k2 := HF1.out.cellF e1
 have k3 := HF1.out.cellF e2
 have k4 := HF1.out.cellF e3
 have hok1 := HF1.out.dom
 clear hw1 hb1 c0 c4 e0 e1 e2 e3
 refine start_ (n:=24) (S:=fun w' => w'.cell? ⟨q,0,none⟩ = some (.slice (some ⟨pb,0,none⟩) N.places.length pcap) ∧ w'.cell? ⟨pb,0,none⟩ = some (.pointer (some ⟨p0,0,none⟩)) ∧ w'.cell? ⟨pb,p,none⟩ = some (.pointer (some ⟨pp,0,none⟩)) ∧ w'.cell? ⟨p0,1,none⟩ = some (.slice (some ⟨sb,0,none⟩) P0.sites.length scap) ∧ w'.cell? ⟨sb,j,none⟩ = some (.int .i64 (p : Int))) (ds := [22]) #[f_,f_,f_,f_,f_,f_,f_,f_,f_,f_,f_,f_,f_,f_,f_,f_,f_,f_,f_,f_,f_,f_,f_,f_] (by kernel_rfl) rfl rfl ⟨k0,k1,k2,k3,k4⟩ (fun hHeld => ?_)
 refine pure_ (i:=0) (N:=some 21) (v:=?_) (a':=?_) #[t_,f_,f_,f_,f_,f_,f_,f_,f_,f_,f_,f_,f_,f_,f_,f_,f_,f_,f_,f_,f_,f_,f_,f_] rfl rfl (by kernel_rfl) (fun _ _ _ h => h) (Or.inl ⟨by rfl,?_⟩) ?_ ?_
 rotate_left;intro w';go_simp;with_reducible rfl;rotate_left;simp only [Act.put,sA_,sB_,sC_,i64_w,i32_w];rfl
 refine pure_ (i:=1) (N:=some 22) (v:=?_) (a':=?_) #[t_,t_,f_,f_,f_,f_,f_,f_,f_,f_,f_,f_,f_,f_,f_,f_,f_,f_,f_,f_,f_,f_,f_,f_] rfl rfl (by kernel_rfl) (fun _ _ _ h => h) (Or.inl ⟨by rfl,?_⟩) ?_ ?_
 rotate_left;intro w';go_simp;with_reducible rfl;rotate_left;simp only [Act.put,sA_,sB_,sC_,i64_w,i32_w];rfl
 refine pure_ (i:=2) (N:=some 23) (v:=?_) (a':=?_) #[t_,t_,t_,f_,f_,f_,f_,f_,f_,f_,f_,f_,f_,f_,f_,f_,f_,f_,f_,f_,f_,f_,f_,f_] rfl rfl (by kernel_rfl) (fun _ _ _ h => h) (Or.inl ⟨by rfl,?_⟩) ?_ ?_
 rotate_left;intro w';go_simp;with_reducible rfl;rotate_left;simp only [Act.put,sA_,sB_,sC_,i64_w,i32_w];rfl
 refine pure_ (i:=4) (N:=some 25) (v:=?_) (a':=?_) #[t_,t_,t_,f_,t_,f_,f_,f_,f_,f_,f_,f_,f_,f_,f_,f_,f_,f_,f_,f_,f_,f_,f_,f_] rfl rfl (by kernel_rfl) (fun _ _ _ h => h) (Or.inl ⟨by rfl,?_⟩) ?_ ?_
 rotate_left;intro w';go_simp;with_reducible rfl;rotate_left;simp only [Act.put,sA_,sB_,sC_,i64_w,i32_w];rfl
 refine pure_ (i:=5) (N:=some 26) (v:=?_) (a':=?_) #[t_,t_,t_,f_,t_,t_,f_,f_,f_,f_,f_,f_,f_,f_,f_,f_,f_,f_,f_,f_,f_,f_,f_,f_] rfl rfl (by kernel_rfl) (fun _ _ _ h => h) (Or.inl ⟨by rfl,?_⟩) ?_ ?_
 rotate_left;intro w';go_simp;with_reducible rfl;rotate_left;simp only [Act.put,sA_,sB_,sC_,i64_w,i32_w];rfl
 refine pure_ (i:=6) (N:=some 27) (v:=?_) (a':=?_) #[t_,t_,t_,f_,t_,t_,t_,f_,f_,f_,f_,f_,f_,f_,f_,f_,f_,f_,f_,f_,f_,f_,f_,f_] rfl rfl (by kernel_rfl) (fun _ _ _ h => h) (Or.inl ⟨by rfl,?_⟩) ?_ ?_
 rotate_left;intro w';go_simp;with_reducible rfl;rotate_left;simp only [Act.put,sA_,sB_,sC_,i64_w,i32_w];rfl
 refine pure_ (i:=13) (N:=some 34) (v:=?_) (a':=?_) #[t_,t_,t_,f_,t_,t_,t_,f_,f_,f_,f_,f_,f_,t_,f_,f_,f_,f_,f_,f_,f_,f_,f_,f_] rfl rfl (by kernel_rfl) (fun _ _ _ h => h) (Or.inl ⟨by rfl,?_⟩) ?_ ?_
 rotate_left;intro w';go_simp;with_reducible rfl;rotate_left;simp only [Act.put,sA_,sB_,sC_,i64_w,i32_w];rfl
 refine pure_ (i:=18) (N:=some 39) (v:=?_) (a':=?_) #[t_,t_,t_,f_,t_,t_,t_,f_,f_,f_,f_,f_,f_,t_,f_,f_,f_,f_,t_,f_,f_,f_,f_,f_] rfl rfl (by kernel_rfl) (fun _ _ _ h => h) (Or.inl ⟨by rfl,?_⟩) ?_ ?_
 rotate_left;intro w';go_simp;with_reducible rfl;rotate_left;simp only [Act.put,sA_,sB_,sC_,i64_w,i32_w];rfl
 refine take_ (i:=3) (N:=some 24) (v:=?_) (a':=?_) #[t_,t_,t_,t_,t_,t_,t_,f_,f_,f_,f_,f_,f_,t_,f_,f_,f_,f_,t_,f_,f_,f_,f_,f_] rfl rfl (by kernel_rfl) (fun _ _ _ h => h) (Or.inl ⟨by rfl,?_⟩) hHeld ?_ ?_
 rotate_left;rintro w' ⟨s0,s1,s2,s3,s4⟩;go_simp;with_reducible rfl;rotate_left;simp only [Act.put,sA_,sB_,sC_,i64_w,i32_w];rfl
 refine take_ (i:=7) (N:=some 28) (v:=?_) (a':=?_) #[t_,t_,t_,t_,t_,t_,t_,t_,f_,f_,f_,f_,f_,t_,f_,f_,f_,f_,t_,f_,f_,f_,f_,f_] rfl rfl (by kernel_rfl) (fun _ _ _ h => h) (Or.inl ⟨by rfl,?_⟩) hHeld ?_ ?_
 rotate_left;rintro w' ⟨s0,s1,s2,s3,s4⟩;go_simp;with_reducible rfl;rotate_left;simp only [Act.put,sA_,sB_,sC_,i64_w,i32_w];rfl
 refine pure_ (i:=8) (N:=some 29) (v:=?_) (a':=?_) #[t_,t_,t_,t_,t_,t_,t_,t_,t_,f_,f_,f_,f_,t_,f_,f_,f_,f_,t_,f_,f_,f_,f_,f_] rfl rfl (by kernel_rfl) (fun _ _ _ h => h) (Or.inl ⟨by rfl,?_⟩) ?_ ?_
 rotate_left;intro w';go_simp;with_reducible rfl;rotate_left;simp only [Act.put,sA_,sB_,sC_,i64_w,i32_w];rfl
 refine take_ (i:=9) (N:=some 30) (v:=?_) (a':=?_) #[t_,t_,t_,t_,t_,t_,t_,t_,t_,t_,f_,f_,f_,t_,f_,f_,f_,f_,t_,f_,f_,f_,f_,f_] rfl rfl (by kernel_rfl) (fun _ _ _ h => h) (Or.inl ⟨by rfl,?_⟩) hHeld ?_ ?_
 rotate_left;rintro w' ⟨s0,s1,s2,s3,s4⟩;go_simp;with_reducible rfl;rotate_left;simp only [Act.put,sA_,sB_,sC_,i64_w,i32_w];rfl
 refine pure_ (i:=10) (N:=some 31) (v:=?_) (a':=?_) #[t_,t_,t_,t_,t_,t_,t_,t_,t_,t_,t_,f_,f_,t_,f_,f_,f_,f_,t_,f_,f_,f_,f_,f_] rfl rfl (by kernel_rfl) (fun _ _ _ h => h) (Or.inl ⟨by rfl,?_⟩) ?_ ?_
 rotate_left;intro w';go_simp;with_reducible rfl;rotate_left;simp only [Act.put,sA_,sB_,sC_,i64_w,i32_w];rfl
 refine pure_ (i:=11) (N:=some 32) (v:=?_) (a':=?_) #[t_,t_,t_,t_,t_,t_,t_,t_,t_,t_,t_,t_,f_,t_,f_,f_,f_,f_,t_,f_,f_,f_,f_,f_] rfl rfl (by kernel_rfl) (fun _ _ _ h => h) (Or.inl ⟨by rfl,?_⟩) ?_ ?_
 rotate_left;intro w';go_simp;with_reducible rfl;rotate_left;simp only [Act.put,sA_,sB_,sC_,i64_w,i32_w];rfl
 refine take_ (i:=12) (N:=some 33) (v:=?_) (a':=?_) #[t_,t_,t_,t_,t_,t_,t_,t_,t_,t_,t_,t_,t_,t_,f_,f_,f_,f_,t_,f_,f_,f_,f_,f_] rfl rfl (by kernel_rfl) (fun _ _ _ h => h) (Or.inl ⟨by rfl,?_⟩) hHeld ?_ ?_
 rotate_left;rintro w' ⟨s0,s1,s2,s3,s4⟩;go_simp;with_reducible rfl;rotate_left;simp only [Act.put,sA_,sB_,sC_,i64_w,i32_w];rfl
 refine pure_ (i:=14) (N:=some 35) (v:=?_) (a':=?_) #[t_,t_,t_,t_,t_,t_,t_,t_,t_,t_,t_,t_,t_,t_,t_,f_,f_,f_,t_,f_,f_,f_,f_,f_] rfl rfl (by kernel_rfl) (fun _ _ _ h => h) (Or.inl ⟨by rfl,?_⟩) ?_ ?_
 rotate_left;intro w';go_simp;with_reducible rfl;rotate_left;simp only [Act.put,sA_,sB_,sC_,i64_w,i32_w];rfl
 refine take_ (i:=15) (N:=some 36) (v:=?_) (a':=?_) #[t_,t_,t_,t_,t_,t_,t_,t_,t_,t_,t_,t_,t_,t_,t_,t_,f_,f_,t_,f_,f_,f_,f_,f_] rfl rfl (by kernel_rfl) (fun _ _ _ h => h) (Or.inl ⟨by rfl,?_⟩) hHeld ?_ ?_
 rotate_left;rintro w' ⟨s0,s1,s2,s3,s4⟩;go_simp;with_reducible rfl;rotate_left;simp only [Act.put,sA_,sB_,sC_,i64_w,i32_w];rfl
 refine pure_ (i:=16) (N:=some 37) (v:=?_) (a':=?_) #[t_,t_,t_,t_,t_,t_,t_,t_,t_,t_,t_,t_,t_,t_,t_,t_,t_,f_,t_,f_,f_,f_,f_,f_] rfl rfl (by kernel_rfl) (fun _ _ _ h => h) (Or.inl ⟨by rfl,?_⟩) ?_ ?_
 rotate_left;intro w';go_simp;with_reducible rfl;rotate_left;simp only [Act.put,sA_,sB_,sC_,i64_w,i32_w];rfl
 refine take_ (i:=17) (N:=some 38) (v:=?_) (a':=?_) #[t_,t_,t_,t_,t_,t_,t_,t_,t_,t_,t_,t_,t_,t_,t_,t_,t_,t_,t_,f_,f_,f_,f_,f_] rfl rfl (by kernel_rfl) (fun _ _ _ h => h) (Or.inl ⟨by rfl,?_⟩) hHeld ?_ ?_
 rotate_left;rintro w' ⟨s0,s1,s2,s3,s4⟩;go_simp;with_reducible rfl;rotate_left;simp only [Act.put,sA_,sB_,sC_,i64_w,i32_w];rfl
 refine one_ (i:=19) (N:=some 40) #[t_,t_,t_,t_,t_,t_,t_,t_,t_,t_,t_,t_,t_,t_,t_,t_,t_,t_,t_,t_,f_,f_,f_,f_] rfl rfl (by kernel_rfl) (by decide) (fun K hK => ?_)
 refine goes_ Tryz.func72 (by kernel_rfl) rfl #[.pointer (some ⟨pp,0,none⟩),.int .i64 (j : Int)] (by rfl) rfl rfl (by simp only [List.map_toArray,List.map_cons,List.map_nil]; rfl) ?_
 with_reducible refine (HRI.out _ (HRP.out.frF (HF1.out.dr)) (TagOk.drew hok1)).mono ?_
 rintro e w2 ⟨WA,wcap,TA,tlen,tcap,rfl,hrow,hF2⟩
 have HZ2 := Lib.hid (hF2.heap (show w1.drew.heap[b1]? = _ from HZ1.out) (fun x => x))
 have r0 : w2.cell? ⟨b1,0,none⟩ = some (.int .i64 0) := cell_of HZ2.out 0
 have r1 : w2.cell? ⟨b1,1,none⟩ = some (.int .i64 0) := cell_of HZ2.out 1
 have r2 : w2.cell? ⟨b1,2,none⟩ = some (.slice none 0 0) := cell_of HZ2.out 2
 have r3 : w2.cell? ⟨b1,3,none⟩ = some (.slice none 0 0) := cell_of HZ2.out 3
 have rz0 := free_of HZ2.out 0
 have rz1 := free_of HZ2.out 1
 have rz2 := free_of HZ2.out 2
 have rz3 := free_of HZ2.out 3
 have HF2 := Lib.hid hF2
 have HROW := Lib.hid hrow
 clear hF2 hrow
 refine ⟨_,rfl,?_⟩
 refine hK.out _ _ ⟨(HF2.out.cellF hHeld.1),(HF2.out.cellF hHeld.2.1),(HF2.out.cellF hHeld.2.2.1),(HF2.out.cellF hHeld.2.2.2.1),(HF2.out.cellF hHeld.2.2.2.2)⟩ (fun hHeld => ?_)
 clear hK K
 refine norm_ (a':=?_) ?_ ?_
 rotate_left
 ·show Act.put _ (some 40) _ = _
  simp only [Act.put,sA_,sB_,sC_,i64_w,i32_w]
  rfl
 refine pure_ (i:=20) (N:=some 41) (v:=?_) (a':=?_) #[t_,t_,t_,t_,t_,t_,t_,t_,t_,t_,t_,t_,t_,t_,t_,t_,t_,t_,t_,t_,t_,f_,f_,f_] rfl rfl (by kernel_rfl) (fun _ _ _ h => h) (Or.inl ⟨by rfl,?_⟩) ?_ ?_
 rotate_left;intro w';go_simp;with_reducible rfl;rotate_left;simp only [Act.put,sA_,sB_,sC_,i64_w,i32_w];rfl
 refine pure_ (i:=21) (N:=some 42) (v:=?_) (a':=?_) #[t_,t_,t_,t_,t_,t_,t_,t_,t_,t_,t_,t_,t_,t_,t_,t_,t_,t_,t_,t_,t_,t_,f_,f_] rfl rfl (by kernel_rfl) (fun _ _ _ h => h) (Or.inl ⟨by rfl,?_⟩) ?_ ?_
 rotate_left;intro w';go_simp;with_reducible rfl;rotate_left;simp only [Act.put,sA_,sB_,sC_,i64_w,i32_w];rfl
 refine last_ (i:=22) (N:=none) #[t_,t_,t_,t_,t_,t_,t_,t_,t_,t_,t_,t_,t_,t_,t_,t_,t_,t_,t_,t_,t_,t_,t_,f_] rfl rfl (by kernel_rfl) (by decide) (fun K hK => ?_)
 refine skip_ (w1:=?_) (by rfl) rfl ?_ ?_
 rotate_left
 ·go_simp
  rfl
 refine hK.out _ _ ?_
 clear hK K
 refine pure_ (i:=23) (N:=some 5) (v:=?_) (a':=?_) #[t_,t_,t_,t_,t_,t_,t_,t_,t_,t_,t_,t_,t_,t_,t_,t_,t_,t_,t_,t_,t_,t_,t_,t_] rfl rfl (by kernel_rfl) (fun _ _ _ h => h) (Or.inl ⟨by rfl,?_⟩) ?_ ?_
 rotate_left;intro w';go_simp;with_reducible rfl;rotate_left;simp only [Act.put,sA_,sB_,sC_,i64_w,i32_w];rfl
 refine done_ (by kernel_rfl) ?_
 clear hHeld k0 k1 k2 k3 k4
 go_wp2_with fail
 obtain ⟨wz,hwz⟩ : ∃ yy,yy = (((w2.setCell ⟨b1,0,none⟩ (.int .i64 it.version)).setCell ⟨b1,1,none⟩ (.int .i64 xh)).setCell ⟨b1,2,none⟩ (.slice WA it.queue.length wcap)).setCell ⟨b1,3,none⟩ (.slice TA tlen tcap) := ⟨_,rfl⟩
 rw [← hwz]
 obtain ⟨rr0,rr1,rr2,rr3⟩ := four_cells HZ2.out hwz
 have hF : Fr (fun _ => False) tag tag w wz := by rw [hwz]; exact (((((HF1.out.dr).trans HF2.out).scn hwb _ _).scn hwb _ _).scn hwb _ _).scn hwb _ _
 have ht : (tag b1).1 = 0 := tag_new hok hwb
 have hG : Fr (fun t => t.1 = 0) tag tag w2 wz := by
  rw [hwz]
  exact ((((Fr.setCell HF2.out.dom (a := ⟨b1,0,none⟩) ht _).trans (Fr.setCell (HF2.out.dom.setCell _ _) (a := ⟨b1,1,none⟩) ht _)).trans (Fr.setCell ((HF2.out.dom.setCell _ _).setCell _ _) (a := ⟨b1,2,none⟩) ht _)).trans (Fr.setCell (((HF2.out.dom.setCell _ _).setCell _ _).setCell _ _) (a := ⟨b1,3,none⟩) ht _))
 refine bodyPost_ret (v:=.tuple #[.agg #[.int .i64 it.version,.int .i64 xh,.slice WA it.queue.length wcap,.slice TA tlen tcap],.int .i64 0]) (by simp [results,Tryz.results46,go_sem,rr0,rr1,rr2,rr3]) rfl ?_
 exact ⟨WA,wcap,⟨TA,tlen,tcap,rfl⟩,HROW.out.fr hG (by simp),hF⟩
set_option maxRecDepth 100000 in
theorem rnitem_bad (n : Int) (h : RNRep tag B w q N) (hok : TagOk tag w) (hn : n < 0 ∨ (N.history.length : Int) ≤ n) :
  Calls Tryz.prog 46 #[.pointer (some ⟨q,0,none⟩),.int .i64 n] w fun e w' => e = .returned (.tuple #[.agg #[.int .i64 0,.int .i64 0,.slice none 0 0,.slice none 0 0],.int .i64 3]) ∧ Fr (fun _ => False) tag tag w w' := by
 obtain ⟨pv,fv,cv,hv',yv,dv,hce,_,h4,_,h7,⟨yvs,h8,_⟩,_⟩ := h.cells
 obtain ⟨YA,ycap,rfl,q3,q4⟩ := h8.form
 unfold maxLen at q4
 have c4 : w.cell? ⟨q,4,none⟩ = some (.slice YA N.history.length ycap) := cell_of hce 4
 have hqw := lt_of_heap hce
 have HF1 := Lib.hid (Fr.alloc (S:=fun _ => False) hok (.cells #[.int .i64 0,.int .i64 0,.slice none 0 0,.slice none 0 0] 91))
 clear h hce h4 h7 h8
 by_cases a1 : n < 0
 ·have i1 : decide (n < 0) = true := decide_eq_true a1
  clear hn
  go_enter Tryz.func46,Tryz.ntmps46
  go_wp2
  refine bodyPost_ret (v:=.tuple #[.agg #[.int .i64 0,.int .i64 0,.slice none 0 0,.slice none 0 0],.int .i64 3]) (by simp [results,Tryz.results46,go_sem]) rfl ?_
  exact ⟨rfl,HF1.out⟩
 ·have i1 : decide (n < 0) = false := decide_eq_false a1
  have a2 : (N.history.length : Int) ≤ n := by omega
  have i2 : decide ((N.history.length : Int) ≤ n) = true := decide_eq_true a2
  clear hn
  go_enter Tryz.func46,Tryz.ntmps46
  go_wp2
  refine bodyPost_ret (v:=.tuple #[.agg #[.int .i64 0,.int .i64 0,.slice none 0 0,.slice none 0 0],.int .i64 3]) (by simp [results,Tryz.results46,go_sem]) rfl ?_
  exact ⟨rfl,HF1.out⟩
set_option maxRecDepth 100000 in
set_option maxHeartbeats 1600000 in
theorem rnstatus_ok {n : Nat} {x : PropM} (h : RNRep tag B w q N) (hok : TagOk tag w) (hn : n < N.claims.length) (hh : N.homes[n]? = some (p : Int)) (hp : N.places[p]? = some P) (hx : find P.props n = some x) :
  Calls Tryz.prog 48 #[.pointer (some ⟨q,0,none⟩),.int .i64 (n : Int)] w fun e w' => e = .returned (.tuple #[.int .i64 x.state,.int .i64 0]) ∧ Fr (fun _ => False) tag tag w w' := by
 have HKN := Lib.hid (rknown_val (n : Int) true (by simp; omega) h)
 obtain ⟨pv,fv,cv,hv',yv,dv,hce,⟨ps,p1,p2,p3⟩,h4,_,h7,_⟩ := h.cells
 obtain ⟨PA,pcap,rfl,q1,q2⟩ := p2.form
 obtain ⟨HA,hcap,rfl,q9,q10⟩ := h7.form
 unfold maxLen at q2 q10
 have hpw := (List.getElem?_eq_some_iff.1 hp).1
 obtain ⟨pp,hpp⟩ : ∃ c,ps[p]? = some c := ⟨_,List.getElem?_eq_getElem (by omega)⟩
 obtain ⟨pb,rfl,_,_,hpc⟩ := p2.cell rfl (j:=p) (by simp [p1]; omega)
 have hnh := (List.getElem?_eq_some_iff.1 hh).1
 obtain ⟨hb,rfl,_,_,hhc⟩ := h7.cell rfl (j:=n) (by rw [ints_len]; exact hnh)
 have hrp := p3 p pp P hpp hp
 have c0 : w.cell? ⟨q,0,none⟩ = some (.slice (some ⟨pb,0,none⟩) N.places.length pcap) := cell_of hce 0
 have c3 : w.cell? ⟨q,3,none⟩ = some (.slice (some ⟨hb,0,none⟩) N.homes.length hcap) := cell_of hce 3
 have e0 : w.cell? ⟨pb,p,none⟩ = some (.pointer (some ⟨pp,0,none⟩)) := by rw [hpc]; simp [hpp,rptr]
 have e1 : w.cell? ⟨hb,n,none⟩ = some (.int .i64 (p : Int)) := by rw [hhc]; simp [ints,hh]
 have i1 : (0 : Int) ≤ (p : Int) := by omega
 have i2 : (p : Int) < (N.places.length : Int) := by omega
 have i3 : (0 : Int) ≤ (n : Int) := by omega
 have i4 : (n : Int) < (N.homes.length : Int) := by omega
 have HRP := Lib.hid hrp
 have HX := Lib.hid hx
 clear h hce p1 p2 p3 h4 h7 hpc hhc hp hpp hh hn hnh hrp hx
 go_enter Tryz.func48,Tryz.ntmps48
 go_wp2_with (go_at_call 66; refine HKN.out.mono ?_; rintro e w1 ⟨rfl,h5⟩; have h5 := h5.symm; subst h5)
 have hst : ∀ d,Calls Tryz.prog 73 #[.pointer (some ⟨pp,0,none⟩),.int .i64 (n : Int)] (w.drewN d) fun e w' => e = .returned (.tuple #[.int .i64 x.state,.int .i64 0]) ∧ w' = w.drewN d := fun d => rstatus_some (HRP.out.frF (Fr.drewN hok d)) HX.out
 have HST := Lib.hid hst
 clear hst
 go_quiet ((go_at_call 73; exact Calls.quiet_at (HST.out _) ⟨_,rfl⟩))
 go_wp2
 go_ret2
 exact ⟨rfl,(Fr.refl hok).dN _⟩
theorem rnstatus_bad (n : Int) (h : RNRep tag B w q N) (hn : n < 0 ∨ (N.claims.length : Int) ≤ n) :
  Calls Tryz.prog 48 #[.pointer (some ⟨q,0,none⟩),.int .i64 n] w fun e w' => e = .returned (.tuple #[.int .i64 0,.int .i64 3]) ∧ w' = w := by
 have HKN := Lib.hid (rknown_val n false (by rcases hn with h | h <;> simp <;> omega) h)
 clear h hn
 go_enter Tryz.func48,Tryz.ntmps48
 go_wp2_with (go_at_call 66; refine HKN.out.mono ?_; rintro e w1 ⟨rfl,h5⟩; have h5 := h5.symm; subst h5)
 go_ret2
 exact ⟨rfl,rfl⟩
end
section
variable {tag : Nat → Tag} {w : World} {B q k : Nat} {N : NetM} {g : G}
theorem r_item {j : Nat} (L : RLive tag B w q N g k) (hj : j < g.n) :
  Calls Tryz.prog 46 #[.pointer (some ⟨q,0,none⟩),.int .i64 (j : Int)] w fun e w' => ∃ (qu : List Asker) (t0 : Tag) (WA : Option Addr) (wcap : Nat) (TA : Option Addr) (tlen tcap : Nat),e = .returned (.tuple #[.agg #[.int .i64 (g.items j).ver,.int .i64 (holdI (g.items j)),.slice WA qu.length wcap,.slice TA tlen tcap],.int .i64 0]) ∧
   qu.map (·.prop) = (g.items j).queue ∧ ORow tag t0 2 w' (.slice WA qu.length wcap) qu.length (askers qu) ∧ Fr (fun _ => False) tag tag w w' := by
 obtain ⟨p,P,it,h1,h2,h3,h4,h5,h6⟩ := L.abs.at_item hj
 have hp0 : 0 < N.places.length := by have := (List.getElem?_eq_some_iff.1 h3).1; omega
 have hP0 := L.abs.place 0 _ (List.getElem?_eq_getElem hp0)
 have hP := L.abs.place p _ h3
 have e : holdI (g.items j) = if it.held = true then it.lk.prop else -1 := by
  rw [holdI,h5.hold]; by_cases e : it.held = true <;> simp [e]
 refine (rnitem_ok (p := p) (P := P) (P0 := N.places[0]) (it := it) L.rep L.ok (by rw [L.abs.ylen]; exact hj) (List.getElem?_eq_getElem hp0) (by rw [hP0.sites j hj,h1]) h3 h4 (by rw [hP.sites j hj,h1,hP.no])).mono ?_
 rintro e' w' ⟨WA,wcap,TA,tlen,tcap,rfl,hr,hF⟩
 refine ⟨it.queue,_,WA,wcap,TA,tlen,tcap,?_,h5.queue.symm,hr,hF⟩
 rw [e,h5.ver]
theorem r_item_bad (n : Int) (L : RLive tag B w q N g k) (hn : n < 0 ∨ (g.n : Int) ≤ n) :
  Calls Tryz.prog 46 #[.pointer (some ⟨q,0,none⟩),.int .i64 n] w fun e w' => e = .returned (.tuple #[.agg #[.int .i64 0,.int .i64 0,.slice none 0 0,.slice none 0 0],.int .i64 3]) ∧ Fr (fun _ => False) tag tag w w' :=
 rnitem_bad n L.rep L.ok (by rw [L.abs.ylen]; exact hn)
theorem r_status {n : Nat} (L : RLive tag B w q N g k) (hn : n < g.np) :
  Calls Tryz.prog 48 #[.pointer (some ⟨q,0,none⟩),.int .i64 (n : Int)] w fun e w' => e = .returned (.tuple #[.int .i64 (g.props n).st,.int .i64 0]) ∧ Fr (fun _ => False) tag tag w w' := by
 obtain ⟨p,P,x,h1,h2,h3,h4,h5,h6,h7,h8⟩ := L.abs.at_prop hn
 rw [← h7]
 exact rnstatus_ok L.rep L.ok (by rw [L.abs.clen]; exact hn) h2 h3 h4
theorem r_status_bad (n : Int) (L : RLive tag B w q N g k) (hn : n < 0 ∨ (g.np : Int) ≤ n) :
  Calls Tryz.prog 48 #[.pointer (some ⟨q,0,none⟩),.int .i64 n] w fun e w' => e = .returned (.tuple #[.int .i64 0,.int .i64 3]) ∧ w' = w :=
 rnstatus_bad n L.rep (by rw [L.abs.clen]; exact hn)
end
section
variable {tag : Nat → Tag} {w : World} {B p k : Nat} {g : G}
end
section
variable {tag : Nat → Tag} {w : World} {B p k : Nat} {g : G}
set_option maxRecDepth 100000 in
set_option maxHeartbeats 3200000 in
theorem nproposals2_ok {N : NetM} (r : Nat) (h : NRep tag B w N) (hok : TagOk tag w) (hr : r < B ∨ B + N.places.length < r) (hr0 : r ≠ 0) (hn : N.claims.length ≤ 1000) (hl : ∀ (i : Nat) (l : List Clm),N.claims[i]? = some l → l.length ≤ 1000) :
  Calls Tryz.prog 43 #[.pointer (some ⟨N.ptr,0,none⟩)] w fun e w' => ∃ v vs,e = .returned v ∧ ∃ tag' : Nat → Tag,Row tag' (r,0,0) 37 1 w' v N.claims.length vs ∧ (∀ (i : Nat) (l : List Clm),N.claims[i]? = some l → ∃ u,vs[i]? = some u ∧ Row tag' (r,1,(i : Int)) 48 2 w' u l.length (claims l)) ∧ Fr (fun t => t.1 = r) tag tag' w w' := by
 obtain ⟨i0,hi,hz0,hz1,hz2⟩ := info_parts Tryz.info37
 obtain ⟨pv,sv,fv,xv,hv,yv,dv,hce,h2,h3,h4,⟨cvs,h5,h6⟩,h7,h8⟩ := h.cells
 obtain ⟨CA,ccap,rfl,q1,q2⟩ := h5.form
 unfold maxLen at q2
 have c3 : w.cell? ⟨N.ptr,3,none⟩ = some (.slice CA N.claims.length ccap) := cell_of hce 3
 have hcvl : cvs.length = N.claims.length := by have := h5.len; omega
 have H5 := Lib.hid h5
 have H6 := Lib.hid h6
 have HLN := Lib.hid hl
 have HCVL := Lib.hid hcvl
 have hB0 := h.b0
 clear h hce h2 h3 h4 h5 h6 h7 h8 hl hcvl
 go_enter Tryz.func43,Tryz.ntmps43
 go_wp2_with fail
 go_loopw [3,13] (fun a i wr => ∃ n : Nat,n ≤ N.claims.length ∧ i = .int .i64 n ∧ ∃ (Tr : Nat → Tag) (vs : List Value),Hid (Row Tr (r,0,0) 37 1 wr a n vs) ∧
  Hid (∀ (i : Nat) (l : List Clm),i < n → N.claims[i]? = some l → ∃ u,vs[i]? = some u ∧ Row Tr (r,1,(i : Int)) 48 2 wr u l.length (claims l)) ∧ Hid (Fr (fun t => t.1 = r) tag Tr w wr)) (fun _ i _ => N.claims.length - (intOf i).toNat)
 case atStart => exact ⟨0,Nat.zero_le _,rfl,tag,[],Lib.hid (Row.nil _ _ _ _ _),Lib.hid (fun i l h => by omega),Lib.hid (Fr.refl hok)⟩
 case round =>
  obtain ⟨n,hn',rfl,Tr,vs,HRo,HIn,HFr⟩ := hrel
  obtain ⟨RA,rcap,rfl,_,_⟩ := HRo.out.form
  by_cases hlt : n < N.claims.length
  ·obtain ⟨l,hx⟩ : ∃ l,N.claims[n]? = some l := ⟨_,List.getElem?_eq_getElem hlt⟩
   obtain ⟨u,hu,hur⟩ := H6.out n l hx
   have h5r := H5.out.fr HFr.out (show ¬ (B,5,(0 : Int)).1 = r by simp; omega)
   obtain ⟨cb,rfl,_,_,hcell⟩ := h5r.cell rfl (j:=n) (by rw [HCVL.out]; exact hlt)
   obtain ⟨UA,ucap,rfl,_,_⟩ := hur.form
   have e0 : wr.cell? ⟨cb,n,none⟩ = some (.slice UA l.length ucap) := by rw [hcell]; exact hu
   have HUR := Lib.hid ((hur.fr HFr.out (show ¬ (B,6,(n : Int)).1 = r by simp; omega)).rd (claims_one l))
   have hll := HLN.out n l hx
   have HX := Lib.hid hx
   have i5 : (0 : Int) ≤ (n : Int) := by omega
   have i6 : (n : Int) < (N.claims.length : Int) := by omega
   have hokr := HFr.out.dom
   clear hx hu hur h5r hcell
   go_wp2_with (first
   | (
    go_at_call 51
    refine (clone70_ok (r,1,(n : Int)) l.length (claims l) wr HUR.out hokr (by omega)).mono ?_
    rintro e w1 ⟨v1,rfl,T1,hrow,hF1⟩
    obtain ⟨A1,c1,rfl,_,_⟩ := hrow.form
    have HV1 := Lib.hid hrow
    have HF1 := Lib.hid hF1
    have HR1 := Lib.hid (HRo.out.fr hF1 (fun x => x))
    clear hrow hF1)
   | (
    at_builtin
    refine append_list rfl (.tmp 17) (.tmp 20) 70 rfl (by rfl) (by rfl) (HR1.out.alloc _) (HF1.out.dom.alloc _) Tryz.underlying70 hi hz0 hz1 hz2 rfl (by decide) [.slice A1 l.length c1] rfl (news_at (Go.Ng.heap_alloc_at _ _)) (by simp [Value.oneCell']) (by decide) (by unfold maxLen; omega) (by omega) ?_
    intro g2 cap2 w2 T2 hrow hfr
    have HROW := Lib.hid hrow
    have HF2 := Lib.hid ((Fr.alloc HF1.out.dom (.cells #[.slice A1 l.length c1] 37)).trans hfr)
    clear hrow hfr))
   go_roundw
   case rel =>
    refine ⟨n + 1,by omega,by go_num,T2,vs ++ [.slice A1 l.length c1],HROW,Lib.hid (fun i l' hil hl' => ?_),Lib.hid ((HFr.out.trans (HF1.out.mono (fun _ h => h.elim))).trans (HF2.out.mono (fun t h => by rw [h])))⟩
    have hvl : vs.length = n := by have := HRo.out.len; omega
    by_cases e : i < n
    ·obtain ⟨u,hu,hr'⟩ := HIn.out i l' e hl'
     exact ⟨u,by rw [List.getElem?_append_left (by omega)]; exact hu,(hr'.fr HF1.out (fun x => x)).fr HF2.out (by simp)⟩
    ·have : i = n := by omega
     subst this
     rw [HX.out] at hl'
     injection hl' with hl'
     subst hl'
     exact ⟨.slice A1 l.length c1,by rw [List.getElem?_append_right (by omega),hvl]; simp,HV1.out.fr HF2.out (by simp)⟩
   case measure => simp [intOf]; omega
  ·have hnn : n = N.claims.length := by omega
   subst hnn
   go_wp2_with fail
   go_ret
   exact ⟨_,vs,rfl,Tr,HRo.out,fun i l hl => by obtain ⟨u,h1,h2⟩ := HIn.out i l (List.getElem?_eq_some_iff.1 hl).1 hl; exact ⟨u,h1,h2⟩,HFr.out⟩
theorem p_proposals2 (r : Nat) (L : LiveP tag B w p g k) (hr : B + 32 < r) (hk : k ≤ 150) :
  Calls Tryz.prog 43 #[.pointer (some ⟨p,0,none⟩)] w fun e w' => ∃ v vs,e = .returned v ∧ ∃ tag' : Nat → Tag,Row tag' (r,0,0) 37 1 w' v g.np vs ∧ (∀ i : Nat,i < g.np → ∃ u,vs[i]? = some u ∧ Row tag' (r,1,(i : Int)) 48 2 w' u (g.props i).claims.length (claims (g.props i).claims)) ∧ Fr (fun t => t.1 = r) tag tag' w w' := by
 obtain ⟨N,rfl,h⟩ := L.net
 have hp := h.abs.p32
 have hnp := h.np
 refine (nproposals2_ok r h.rep h.ok (by rw [h.abs.plen]; omega) (by omega) (by rw [h.abs.clen]; omega) (fun i l hl => ?_)).mono ?_
 ·have hi : i < g.np := by rw [← h.abs.clen]; exact (List.getElem?_eq_some_iff.1 hl).1
  rw [h.abs.claims i hi] at hl
  injection hl with hl
  have := h.good.inv.len i
  rw [← hl]; omega
 ·rintro e w' ⟨v,vs,he,T,h1,h2,h3⟩
  rw [h.abs.clen] at h1
  exact ⟨v,vs,he,T,h1,fun i hi => h2 i _ (h.abs.claims i hi),h3⟩
end
end Go.Proofs.YtclkokkppgchfaaGreat
