/- A part of the proof: texts of this session, joined. -/
import Derived.Test.YtclkokkppgchfaaNegoNetsOwn17
import Derived.Test.YtclkokkppgchfaaPart10
import Derived.Test.YtclkokkppgchfaaPart6
import Derived.Deep.DeepCutAuto
import Derived.Test.YtclkokkppgchfaaShort
set_option linter.unusedSimpArgs false
set_option linter.unusedVariables false
namespace Go.Proofs.Ytclkokkppgchfaa
open Go.RowKit Go.Ng Go.Proofs.YtclkokkppgchfaaW.PrintLast
section
variable {S : Tag → Prop} {tag tag' : Nat → Tag} {w w' : World} {B q p : Nat} {N : NetM} {P P' : PlaceM}
def MidD (tag : Nat → Tag) (w : World) (s : Nat) (w' : World) : Prop :=
  w'.heap[s]? = some (.cells #[.int .i64 0,.slice none 0 0,.int .i64 0,.int .i64 0] 140 (0,0)) ∧ w.heap.size ≤ s ∧ Fr (fun _ => False) tag tag w w'
theorem rknown_val (n : Int) (r : Bool) (hr : (decide (0 ≤ n) && decide (n < N.claims.length)) = r) (h : RNRep tag B w q N) :
    Calls Try.prog 121 #[.pointer (some ⟨q,0,none⟩),.int .i64 n] w fun e w' => e = .returned (.bool r) ∧ w' = w := hr ▸ rknown_ok n h
theorem rfind_fr {k pp : Nat} (n : Int) (i : Nat) (hi : idxR n P.props = i) (h : RPRep tag k w pp P) (hok : TagOk tag w) :
    Calls Try.prog 74 #[.pointer (some ⟨pp,0,none⟩),.int .i64 n] w fun e w' => e = .returned (.int .i64 (i : Int)) ∧ Fr (fun _ => False) tag tag w w' :=
  (rfind_val n i hi h).mono fun e w' ⟨h1,h2⟩ => ⟨h1,by rw [h2]; exact Fr.refl hok⟩
theorem rndrop_none (n : Int) (h : RNRep tag B w q N) (hn : (decide (0 ≤ n) && decide (n < N.claims.length)) = false) :
    Calls Try.prog 95 #[.pointer (some ⟨q,0,none⟩),.int .i64 n] w fun e w' => e = .returned (.int .i64 3) ∧ w' = w := by
  have HC := Lib.hid (rknown_val n false hn h)
  clear h hn
  go_enter Try.func95,Try.ntmps95
  go_wp2_with (go_at_call 121; refine HC.out.mono ?_; rintro e w1 ⟨rfl,h5⟩; have h5 := h5.symm; subst h5)
  go_ret
  exact ⟨rfl,rfl⟩
theorem rdrop_val {k pp R : Nat} {x : PropM} {n : Int} (h : RPRep tag k w pp P) (hok : TagOk tag w) (hR : R ≠ 0) (hRk : R ≠ k) (hW : WF P) (hnd : (P.props.map (·.1)).Nodup) (hf : find P.props n = some x) (hst : x.state = 1) (ho : P.out = []) (T : PlaceM) (hT : dropM P n x = T) :
    Calls Try.prog 24 #[.pointer (some ⟨pp,0,none⟩),.int .i64 n] w fun e w' => ∃ ov tag',e = .returned (.tuple #[ov,.int .i64 0]) ∧ Row tag' (R,1,0) 49 6 w' ov T.out.length (posts T.out) ∧ RPRep tag' k w' pp T ∧ Fr (fun t => t.1 = k ∨ t.1 = R) tag tag' w w' :=
  hT ▸ rdrop_ok h hok hR hRk hW hnd hf hst ho
set_option maxRecDepth 100000 in
set_option maxHeartbeats 6400000 in
theorem rndrop_ok {n : Nat} {x : PropM} (h : RNRep tag B w q N) (hok : TagOk tag w) (h32 : N.places.length ≤ 32) (hn : n < N.claims.length) (hh : N.homes[n]? = some (p : Int)) (hp : N.places[p]? = some P) (hx : find P.props n = some x) (hW : RWell P)
    (hpr : P.props.length ≤ 10000) (hdo : (dropM P n x).out.length ≤ 1000) (hfl : N.flight.length ≤ 19000) :
    Calls Try.prog 95 #[.pointer (some ⟨q,0,none⟩),.int .i64 (n : Int)] w fun e w' => (x.state ≠ 1 → e = .returned (.int .i64 273) ∧ Fr (fun _ => False) tag tag w w') ∧
      (x.state = 1 → e = .returned (.int .i64 0) ∧ ∃ tag',RNRep tag' B w' q (dropN N n p P x) ∧ Fr (fun t => B ≤ t.1 ∧ t.1 ≤ B + 33) tag tag' w w') := by
  obtain ⟨i49,hi49,hp0,hp1,hp2⟩ := info_parts Try.info49
  have hB0 := h.b0
  have hpw := (List.getElem?_eq_some_iff.1 hp).1
  obtain ⟨T,hT⟩ : ∃ T,dropM P n x = T := ⟨_,rfl⟩
  obtain ⟨i,hi,hix⟩ := find_idx hx
  have hfew := hW.wf.few _ _ (List.mem_of_getElem? hi)
  have hgl := hW.wf.le _ _ (List.mem_of_getElem? hi)
  have HKN := Lib.hid (rknown_val (n : Int) true (by simp; omega) h)
  obtain ⟨pv,fv,xv,hv',yv,dv,hce,⟨ps,p1,p2,p3⟩,h4,⟨cvs,h5,h6⟩,h7,_⟩ := h.cells
  obtain ⟨PA,pcap,rfl,q1,q2⟩ := p2.form
  obtain ⟨FA,fcap,rfl,q5,q6⟩ := h4.form
  obtain ⟨HA,hcap,rfl,q9,q10⟩ := h7.form
  unfold maxLen at q2 q6 q10
  obtain ⟨pp,hpp⟩ : ∃ c,ps[p]? = some c := ⟨_,List.getElem?_eq_getElem (by omega)⟩
  obtain ⟨pb,rfl,_,_,hpc⟩ := p2.cell rfl (j:=p) (by simp [p1]; omega)
  have hnh := (List.getElem?_eq_some_iff.1 hh).1
  obtain ⟨hb,rfl,_,_,hhc⟩ := h7.cell rfl (j:=n) (by rw [ints_len]; exact hnh)
  have hrp := p3 p pp P hpp hp
  have c0 : w.cell? ⟨q,0,none⟩ = some (.slice (some ⟨pb,0,none⟩) N.places.length pcap) := cell_of hce 0
  have c1 : w.cell? ⟨q,1,none⟩ = some (.slice FA N.flight.length fcap) := cell_of hce 1
  have c3 : w.cell? ⟨q,3,none⟩ = some (.slice (some ⟨hb,0,none⟩) N.homes.length hcap) := cell_of hce 3
  have e0 : w.cell? ⟨pb,p,none⟩ = some (.pointer (some ⟨pp,0,none⟩)) := by rw [hpc]; simp [hpp,rptr]
  have e1 : w.cell? ⟨hb,n,none⟩ = some (.int .i64 (p : Int)) := by rw [hhc]; simp [ints,hh]
  obtain ⟨av,iv,ppv,g1,_,_,prs,g6,g7,g8⟩ := hrp.cells
  obtain ⟨QA,qcap,rfl,z1,z2⟩ := g7.form
  unfold maxLen at z2
  have hil : i < prs.length := by have := (List.getElem?_eq_some_iff.1 hi).1; omega
  obtain ⟨⟨xn,xc,xs,xg⟩,hxx⟩ : ∃ c,prs[i]? = some c := ⟨_,List.getElem?_eq_getElem hil⟩
  have hr := g8 i n x _ hi hxx
  obtain ⟨r1,r2,r3,r4,r5⟩ := hr
  simp only at r1 r2 r3 r4 r5
  subst r1 r2 r3
  obtain ⟨qb,rfl,_,_,hqc⟩ := Row.elem (enc := RPr.cells) g7 (fun _ => rfl) (by decide) hxx
  obtain ⟨XA,xcap,rfl,_,_⟩ := r4.slice
  have f3 : w.cell? ⟨pp,3,none⟩ = some (.slice (some ⟨qb,0,none⟩) prs.length qcap) := cell_of g1 3
  have x0 : w.cell? ⟨qb,i * 4,none⟩ = some (.int .i64 (n : Int)) := hqc 0 _ rfl
  have x1 : w.cell? ⟨qb,i * 4 + 1,none⟩ = some (.slice XA x.claims.length xcap) := hqc 1 _ rfl
  have x2 : w.cell? ⟨qb,i * 4 + 2,none⟩ = some (.int .i64 x.state) := hqc 2 _ rfl
  have x3 : w.cell? ⟨qb,i * 4 + 3,none⟩ = some (.int .i64 (x.granted : Int)) := hqc 3 _ rfl
  have i1 : (0 : Int) ≤ (p : Int) := by omega
  have i2 : (p : Int) < (N.places.length : Int) := by omega
  have i3 : (0 : Int) ≤ (n : Int) := by omega
  have i4 : (n : Int) < (N.homes.length : Int) := by omega
  have i5 : (0 : Int) ≤ (i : Int) := by omega
  have i6 : (i : Int) < (prs.length : Int) := by omega
  have hqw := lt_of_heap hce
  have HN := Lib.hid h
  have HCE := Lib.hid hce
  have HRP := Lib.hid hrp
  have HP1 := Lib.hid p1
  have HP2 := Lib.hid p2
  have HP3 := Lib.hid p3
  have HPP := Lib.hid hpp
  have HX := Lib.hid hx
  have HW := Lib.hid hW
  have HIX := Lib.hid hix
  have HTT := Lib.hid hT
  have H4 := Lib.hid h4
  have hTo : T.out.length ≤ 1000 := by rw [← hT]; exact hdo
  have hR0 : B + 33 ≠ 0 := by omega
  have hRk : B + 33 ≠ B + 1 + p := by omega
  clear h hce p1 p2 p3 h4 h5 h6 h7 hpc hhc hp hx hW hi hix hT hdo hpp hh hn hnh hrp g1 g6 g7 g8 hxx r4 r5 hqc
  go_enter Try.func95,Try.ntmps95
  go_wp2_with (go_at_call 121; refine HKN.out.mono ?_; rintro e w1 ⟨rfl,h5⟩; have h5 := h5.symm; subst h5)
  refine start_ (n:=14) (S:=fun w' => w'.cell? ⟨q,0,none⟩ = some (.slice (some ⟨pb,0,none⟩) N.places.length pcap) ∧ w'.cell? ⟨q,3,none⟩ = some (.slice (some ⟨hb,0,none⟩) N.homes.length hcap) ∧ w'.cell? ⟨hb,n,none⟩ = some (.int .i64 (p : Int)) ∧ w'.cell? ⟨pb,p,none⟩ = some (.pointer (some ⟨pp,0,none⟩))) (ds := []) #[f_,f_,f_,f_,f_,f_,f_,f_,f_,f_,f_,f_,f_,f_] (by kernel_rfl) rfl rfl ⟨c0,c3,e1,e0⟩ (fun hHeld => ?_)
  refine pure_ (i:=0) (N:=some 17) (v:=?_) (a':=?_) #[t_,f_,f_,f_,f_,f_,f_,f_,f_,f_,f_,f_,f_,f_] rfl rfl (by kernel_rfl) (fun _ _ _ h => h) (Or.inl ⟨by rfl,?_⟩) ?_ ?_
  rotate_left;intro w';go_simp;with_reducible rfl;rotate_left;simp only [Act.put,sA_,sB_,sC_,i64_w,i32_w];rfl
  refine pure_ (i:=1) (N:=some 18) (v:=?_) (a':=?_) #[t_,t_,f_,f_,f_,f_,f_,f_,f_,f_,f_,f_,f_,f_] rfl rfl (by kernel_rfl) (fun _ _ _ h => h) (Or.inl ⟨by rfl,?_⟩) ?_ ?_
  rotate_left;intro w';go_simp;with_reducible rfl;rotate_left;simp only [Act.put,sA_,sB_,sC_,i64_w,i32_w];rfl
  refine pure_ (i:=2) (N:=some 19) (v:=?_) (a':=?_) #[t_,t_,t_,f_,f_,f_,f_,f_,f_,f_,f_,f_,f_,f_] rfl rfl (by kernel_rfl) (fun _ _ _ h => h) (Or.inl ⟨by rfl,?_⟩) ?_ ?_
  rotate_left;intro w';go_simp;with_reducible rfl;rotate_left;simp only [Act.put,sA_,sB_,sC_,i64_w,i32_w];rfl
  refine pure_ (i:=4) (N:=some 21) (v:=?_) (a':=?_) #[t_,t_,t_,f_,t_,f_,f_,f_,f_,f_,f_,f_,f_,f_] rfl rfl (by kernel_rfl) (fun _ _ _ h => h) (Or.inl ⟨by rfl,?_⟩) ?_ ?_
  rotate_left;intro w';go_simp;with_reducible rfl;rotate_left;simp only [Act.put,sA_,sB_,sC_,i64_w,i32_w];rfl
  refine pure_ (i:=5) (N:=some 22) (v:=?_) (a':=?_) #[t_,t_,t_,f_,t_,t_,f_,f_,f_,f_,f_,f_,f_,f_] rfl rfl (by kernel_rfl) (fun _ _ _ h => h) (Or.inl ⟨by rfl,?_⟩) ?_ ?_
  rotate_left;intro w';go_simp;with_reducible rfl;rotate_left;simp only [Act.put,sA_,sB_,sC_,i64_w,i32_w];rfl
  refine pure_ (i:=6) (N:=some 23) (v:=?_) (a':=?_) #[t_,t_,t_,f_,t_,t_,t_,f_,f_,f_,f_,f_,f_,f_] rfl rfl (by kernel_rfl) (fun _ _ _ h => h) (Or.inl ⟨by rfl,?_⟩) ?_ ?_
  rotate_left;intro w';go_simp;with_reducible rfl;rotate_left;simp only [Act.put,sA_,sB_,sC_,i64_w,i32_w];rfl
  refine pure_ (i:=8) (N:=some 25) (v:=?_) (a':=?_) #[t_,t_,t_,f_,t_,t_,t_,f_,t_,f_,f_,f_,f_,f_] rfl rfl (by kernel_rfl) (fun _ _ _ h => h) (Or.inl ⟨by rfl,?_⟩) ?_ ?_
  rotate_left;intro w';go_simp;with_reducible rfl;rotate_left;simp only [Act.put,sA_,sB_,sC_,i64_w,i32_w];rfl
  refine take_ (i:=3) (N:=some 20) (v:=?_) (a':=?_) #[t_,t_,t_,t_,t_,t_,t_,f_,t_,f_,f_,f_,f_,f_] rfl rfl (by kernel_rfl) (fun _ _ _ h => h) (Or.inl ⟨by rfl,?_⟩) hHeld ?_ ?_
  rotate_left;rintro w' ⟨s0,s1,s2,s3⟩;go_simp;with_reducible rfl;rotate_left;simp only [Act.put,sA_,sB_,sC_,i64_w,i32_w];rfl
  refine take_ (i:=7) (N:=some 24) (v:=?_) (a':=?_) #[t_,t_,t_,t_,t_,t_,t_,t_,t_,f_,f_,f_,f_,f_] rfl rfl (by kernel_rfl) (fun _ _ _ h => h) (Or.inl ⟨by rfl,?_⟩) hHeld ?_ ?_
  rotate_left;rintro w' ⟨s0,s1,s2,s3⟩;go_simp;with_reducible rfl;rotate_left;simp only [Act.put,sA_,sB_,sC_,i64_w,i32_w];rfl
  refine pure_ (i:=9) (N:=some 26) (v:=?_) (a':=?_) #[t_,t_,t_,t_,t_,t_,t_,t_,t_,t_,f_,f_,f_,f_] rfl rfl (by kernel_rfl) (fun _ _ _ h => h) (Or.inl ⟨by rfl,?_⟩) ?_ ?_
  rotate_left;intro w';go_simp;with_reducible rfl;rotate_left;simp only [Act.put,sA_,sB_,sC_,i64_w,i32_w];rfl
  refine take_ (i:=10) (N:=some 27) (v:=?_) (a':=?_) #[t_,t_,t_,t_,t_,t_,t_,t_,t_,t_,t_,f_,f_,f_] rfl rfl (by kernel_rfl) (fun _ _ _ h => h) (Or.inl ⟨by rfl,?_⟩) hHeld ?_ ?_
  rotate_left;rintro w' ⟨s0,s1,s2,s3⟩;go_simp;with_reducible rfl;rotate_left;simp only [Act.put,sA_,sB_,sC_,i64_w,i32_w];rfl
  refine pure_ (i:=11) (N:=some 28) (v:=?_) (a':=?_) #[t_,t_,t_,t_,t_,t_,t_,t_,t_,t_,t_,t_,f_,f_] rfl rfl (by kernel_rfl) (fun _ _ _ h => h) (Or.inl ⟨by rfl,?_⟩) ?_ ?_
  rotate_left;intro w';go_simp;with_reducible rfl;rotate_left;simp only [Act.put,sA_,sB_,sC_,i64_w,i32_w];rfl
  refine take_ (i:=12) (N:=some 29) (v:=?_) (a':=?_) #[t_,t_,t_,t_,t_,t_,t_,t_,t_,t_,t_,t_,t_,f_] rfl rfl (by kernel_rfl) (fun _ _ _ h => h) (Or.inl ⟨by rfl,?_⟩) hHeld ?_ ?_
  rotate_left;rintro w' ⟨s0,s1,s2,s3⟩;go_simp;with_reducible rfl;rotate_left;simp only [Act.put,sA_,sB_,sC_,i64_w,i32_w];rfl
  refine pure_ (i:=13) (N:=some 6) (v:=?_) (a':=?_) #[t_,t_,t_,t_,t_,t_,t_,t_,t_,t_,t_,t_,t_,t_] rfl rfl (by kernel_rfl) (fun _ _ _ h => h) (Or.inl ⟨by rfl,?_⟩) ?_ ?_
  rotate_left;intro w';go_simp;with_reducible rfl;rotate_left;simp only [Act.put,sA_,sB_,sC_,i64_w,i32_w];rfl
  refine done_ (by kernel_rfl) ?_
  clear hHeld
  go_upto_region 7 with fail
  obtain ⟨w1,hw1⟩ : ∃ yy,yy = w.drew := ⟨_,rfl⟩
  rw [← hw1]
  have hF1 : Fr (fun _ => False) tag tag w w1 := by rw [hw1]; exact Fr.drew hok
  have k3 : w1.cell? ⟨pp,3,none⟩ = some (.slice (some ⟨qb,0,none⟩) prs.length qcap) := hF1.cellF f3
  have k4 : w1.cell? ⟨qb,i * 4,none⟩ = some (.int .i64 (n : Int)) := hF1.cellF x0
  have k5 : w1.cell? ⟨qb,i * 4 + 1,none⟩ = some (.slice XA x.claims.length xcap) := hF1.cellF x1
  have k6 : w1.cell? ⟨qb,i * 4 + 2,none⟩ = some (.int .i64 x.state) := hF1.cellF x2
  have k7 : w1.cell? ⟨qb,i * 4 + 3,none⟩ = some (.int .i64 (x.granted : Int)) := hF1.cellF x3
  have HF1 := Lib.hid hF1
  have HRP1 := Lib.hid (HRP.out.frF hF1)
  have hok1 := hF1.dom
  have C1 := Lib.hid c1
  clear hw1 hF1 c0 c1 c3 e0 e1 f3 x0 x1 x2 x3
  have HG0 : Hid (Fr (fun _ => False) tag tag w1 w1.drew) := Lib.hid (Fr.drew hok1)
  refine start_ (n:=11) (S:=fun w' => w'.cell? ⟨pp,3,none⟩ = some (.slice (some ⟨qb,0,none⟩) prs.length qcap) ∧ w'.cell? ⟨qb,i * 4,none⟩ = some (.int .i64 (n : Int)) ∧ w'.cell? ⟨qb,i * 4 + 1,none⟩ = some (.slice XA x.claims.length xcap) ∧ w'.cell? ⟨qb,i * 4 + 2,none⟩ = some (.int .i64 x.state) ∧ w'.cell? ⟨qb,i * 4 + 3,none⟩ = some (.int .i64 (x.granted : Int))) (ds := [10]) #[f_,f_,f_,f_,f_,f_,f_,f_,f_,f_,f_] (by kernel_rfl) rfl rfl ⟨k3,k4,k5,k6,k7⟩ (fun hHeld => ?_)
  generalize w1.drew = W0 at HG0 hHeld ⊢
  refine pure_ (i:=0) (N:=some 30) (v:=?_) (a':=?_) #[t_,f_,f_,f_,f_,f_,f_,f_,f_,f_,f_] rfl rfl (by kernel_rfl) (fun _ _ _ h => h) (Or.inl ⟨by rfl,?_⟩) ?_ ?_
  rotate_left;intro w';go_simp;with_reducible rfl;rotate_left;simp only [Act.put,sA_,sB_,sC_,i64_w,i32_w];rfl
  refine pure_ (i:=1) (N:=some 31) (v:=?_) (a':=?_) #[t_,t_,f_,f_,f_,f_,f_,f_,f_,f_,f_] rfl rfl (by kernel_rfl) (fun _ _ _ h => h) (Or.inl ⟨by rfl,?_⟩) ?_ ?_
  rotate_left;intro w';go_simp;with_reducible rfl;rotate_left;simp only [Act.put,sA_,sB_,sC_,i64_w,i32_w];rfl
  refine pure_ (i:=2) (N:=some 32) (v:=?_) (a':=?_) #[t_,t_,t_,f_,f_,f_,f_,f_,f_,f_,f_] rfl rfl (by kernel_rfl) (fun _ _ _ h => h) (Or.inl ⟨by rfl,?_⟩) ?_ ?_
  rotate_left;intro w';go_simp;with_reducible rfl;rotate_left;simp only [Act.put,sA_,sB_,sC_,i64_w,i32_w];rfl
  refine pure_ (i:=4) (N:=some 34) (v:=?_) (a':=?_) #[t_,t_,t_,f_,t_,f_,f_,f_,f_,f_,f_] rfl rfl (by kernel_rfl) (fun _ _ _ h => h) (Or.inl ⟨by rfl,?_⟩) ?_ ?_
  rotate_left;intro w';go_simp;with_reducible rfl;rotate_left;simp only [Act.put,sA_,sB_,sC_,i64_w,i32_w];rfl
  refine pure_ (i:=5) (N:=some 35) (v:=?_) (a':=?_) #[t_,t_,t_,f_,t_,t_,f_,f_,f_,f_,f_] rfl rfl (by kernel_rfl) (fun _ _ _ h => h) (Or.inl ⟨by rfl,?_⟩) ?_ ?_
  rotate_left;intro w';go_simp;with_reducible rfl;rotate_left;simp only [Act.put,sA_,sB_,sC_,i64_w,i32_w];rfl
  refine take_ (i:=3) (N:=some 33) (v:=?_) (a':=?_) #[t_,t_,t_,t_,t_,t_,f_,f_,f_,f_,f_] rfl rfl (by kernel_rfl) (fun _ _ _ h => h) (Or.inl ⟨by rfl,?_⟩) hHeld ?_ ?_
  rotate_left;rintro w' ⟨s0,s1,s2,s3,s4⟩;go_simp;with_reducible rfl;rotate_left;simp only [Act.put,sA_,sB_,sC_,i64_w,i32_w];rfl
  refine join_ (σ := Nat) 1 #[t_,t_,t_,t_,t_,t_,t_,t_,t_,t_,f_] (fun s => [(36,.int .i64 (i : Int)),(37,.pointer (some ⟨qb,i * 4,none⟩)),(38,.agg #[.int .i64 (n : Int),.slice XA x.claims.length xcap,.int .i64 x.state,.int .i64 (x.granted : Int)]),(7,.pointer (some ⟨s,0,none⟩))]) (MidD tag w1) ?_ ?_
  rotate_left
  · intro hCont
    refine two_ (i:=6) (j:=9) (Ni := some 36) (Nj := some 7) #[t_,t_,t_,t_,t_,t_,t_,f_,f_,f_,f_] #[t_,t_,t_,t_,t_,t_,f_,f_,f_,t_,f_] rfl rfl rfl rfl (by kernel_rfl) (by decide) (by decide) (fun K hK => ?_) (fun K hK => ?_)
    · skip
      refine goes_ Try.func74 (by kernel_rfl) rfl #[.pointer (some ⟨pp,0,none⟩),.int .i64 (n : Int)] (by rfl) rfl rfl (by simp only [List.map_toArray,List.map_cons,List.map_nil]; rfl) ?_
      with_reducible refine (rfind_fr (n : Int) i HIX.out (HRP1.out.frF HG0.out) HG0.out.dom).mono ?_
      rintro e W1 ⟨rfl,hs⟩
      refine ⟨_,rfl,?_⟩
      have HG1 := Lib.hid (HG0.out.trans hs)
      clear hs
      refine hK.out _ _ ⟨HG1.out.cellF k3,HG1.out.cellF k4,HG1.out.cellF k5,HG1.out.cellF k6,HG1.out.cellF k7⟩ (fun hHeld => ?_)
      clear hK K
      refine norm_ (a':=?_) ?_ ?_
      rotate_left
      · show Act.put _ (some 36) _ = _
        simp only [Act.put,sA_,sB_,sC_,i64_w,i32_w]
        rfl
      refine pure_ (i:=7) (N:=some 37) (v:=?_) (a':=?_) #[t_,t_,t_,t_,t_,t_,t_,t_,f_,f_,f_] rfl rfl (by kernel_rfl) (fun _ _ _ h => h) (Or.inl ⟨by rfl,?_⟩) ?_ ?_
      rotate_left;intro w';go_simp;with_reducible rfl;rotate_left;simp only [Act.put,sA_,sB_,sC_,i64_w,i32_w];rfl
      refine take_ (i:=8) (N:=some 38) (v:=?_) (a':=?_) #[t_,t_,t_,t_,t_,t_,t_,t_,t_,f_,f_] rfl rfl (by kernel_rfl) (fun _ _ _ h => h) (Or.inl ⟨by rfl,?_⟩) hHeld ?_ ?_
      rotate_left;rintro w' ⟨s0,s1,s2,s3,s4⟩;go_simp;with_reducible rfl;rotate_left;simp only [Act.put,sA_,sB_,sC_,i64_w,i32_w];rfl
      refine one_ (i:=9) (N:=some 7) #[t_,t_,t_,t_,t_,t_,t_,t_,t_,t_,f_] rfl rfl (by kernel_rfl) (by decide) (fun K hK => ?_)
      refine value_ (w1:=?_) (v:=?_) (by rfl) rfl ?_ ?_
      rotate_left 2
      · go_simp
        constructor
        · rfl
        · rfl
      obtain ⟨W2,hW⟩ : ∃ yy,yy = World.alloc W1 (.cells #[.int .i64 0,.slice none 0 0,.int .i64 0,.int .i64 0] 140) := ⟨_,rfl⟩
      rw [← hW]
      obtain ⟨cb,hcb⟩ : ∃ yy,yy = (World.heap W1).size := ⟨_,rfl⟩
      have HB2 : Hid (W2.heap[cb]? = some (.cells #[.int .i64 0,.slice none 0 0,.int .i64 0,.int .i64 0] 140 (0,0))) := Lib.hid (by rw [hW,hcb]; exact Go.Ng.heap_alloc_at _ _)
      have HG2 : Hid (Fr (fun _ => False) tag tag w1 W2) := Lib.hid (by rw [hW]; exact HG1.out.al _)
      have HS : Hid (w1.heap.size ≤ cb) := Lib.hid (by rw [hcb]; exact HG1.out.size)
      rw [← hcb]
      clear hW hcb
      refine hK.out _ _ ⟨HG2.out.cellF k3,HG2.out.cellF k4,HG2.out.cellF k5,HG2.out.cellF k6,HG2.out.cellF k7⟩ (fun hHeld => ?_)
      clear hK K
      refine norm_ (a':=?_) ?_ ?_
      rotate_left
      · show Act.put _ (some 7) _ = _
        simp only [Act.put,sA_,sB_,sC_,i64_w,i32_w]
        rfl
      exact norm_ (by simp only [putAll,Act.put,sA_,sB_,sC_]) (hCont cb _ ⟨HB2.out,HS.out,HG2.out⟩)
    · skip
      refine value_ (w1:=?_) (v:=?_) (by rfl) rfl ?_ ?_
      rotate_left 2
      · go_simp
        constructor
        · rfl
        · rfl
      obtain ⟨W1,hW⟩ : ∃ yy,yy = World.alloc W0 (.cells #[.int .i64 0,.slice none 0 0,.int .i64 0,.int .i64 0] 140) := ⟨_,rfl⟩
      rw [← hW]
      obtain ⟨cb,hcb⟩ : ∃ yy,yy = (World.heap W0).size := ⟨_,rfl⟩
      have HB1 : Hid (W1.heap[cb]? = some (.cells #[.int .i64 0,.slice none 0 0,.int .i64 0,.int .i64 0] 140 (0,0))) := Lib.hid (by rw [hW,hcb]; exact Go.Ng.heap_alloc_at _ _)
      have HG1 : Hid (Fr (fun _ => False) tag tag w1 W1) := Lib.hid (by rw [hW]; exact HG0.out.al _)
      have HS : Hid (w1.heap.size ≤ cb) := Lib.hid (by rw [hcb]; exact HG0.out.size)
      rw [← hcb]
      clear hW hcb
      refine hK.out _ _ ⟨HG1.out.cellF k3,HG1.out.cellF k4,HG1.out.cellF k5,HG1.out.cellF k6,HG1.out.cellF k7⟩ (fun hHeld => ?_)
      clear hK K
      refine norm_ (a':=?_) ?_ ?_
      rotate_left
      · show Act.put _ (some 7) _ = _
        simp only [Act.put,sA_,sB_,sC_,i64_w,i32_w]
        rfl
      refine one_ (i:=6) (N:=some 36) #[t_,t_,t_,t_,t_,t_,t_,f_,f_,t_,f_] rfl rfl (by kernel_rfl) (by decide) (fun K hK => ?_)
      refine goes_ Try.func74 (by kernel_rfl) rfl #[.pointer (some ⟨pp,0,none⟩),.int .i64 (n : Int)] (by rfl) rfl rfl (by simp only [List.map_toArray,List.map_cons,List.map_nil]; rfl) ?_
      with_reducible refine (rfind_fr (n : Int) i HIX.out (HRP1.out.frF HG1.out) HG1.out.dom).mono ?_
      rintro e W2 ⟨rfl,hs⟩
      refine ⟨_,rfl,?_⟩
      have HG2 := Lib.hid (HG1.out.trans hs)
      have HB2 := Lib.hid (hs.heap HB1.out (fun x => x))
      clear hs
      refine hK.out _ _ ⟨HG2.out.cellF k3,HG2.out.cellF k4,HG2.out.cellF k5,HG2.out.cellF k6,HG2.out.cellF k7⟩ (fun hHeld => ?_)
      clear hK K
      refine norm_ (a':=?_) ?_ ?_
      rotate_left
      · show Act.put _ (some 36) _ = _
        simp only [Act.put,sA_,sB_,sC_,i64_w,i32_w]
        rfl
      refine pure_ (i:=7) (N:=some 37) (v:=?_) (a':=?_) #[t_,t_,t_,t_,t_,t_,t_,t_,f_,t_,f_] rfl rfl (by kernel_rfl) (fun _ _ _ h => h) (Or.inl ⟨by rfl,?_⟩) ?_ ?_
      rotate_left;intro w';go_simp;with_reducible rfl;rotate_left;simp only [Act.put,sA_,sB_,sC_,i64_w,i32_w];rfl
      refine take_ (i:=8) (N:=some 38) (v:=?_) (a':=?_) #[t_,t_,t_,t_,t_,t_,t_,t_,t_,t_,f_] rfl rfl (by kernel_rfl) (fun _ _ _ h => h) (Or.inl ⟨by rfl,?_⟩) hHeld ?_ ?_
      rotate_left;rintro w' ⟨s0,s1,s2,s3,s4⟩;go_simp;with_reducible rfl;rotate_left;simp only [Act.put,sA_,sB_,sC_,i64_w,i32_w];rfl
      exact norm_ (by simp only [putAll,Act.put,sA_,sB_,sC_]) (hCont cb _ ⟨HB2.out,HS.out,HG2.out⟩)
  rintro b7 w2 ⟨hb,hs,hg⟩
  have HB := Lib.hid hb
  have HS := Lib.hid hs
  have HG := Lib.hid hg
  have z0 : w2.cell? ⟨b7,0,none⟩ = some (.int .i64 0) := cell_of hb 0
  have z1 : w2.cell? ⟨b7,1,none⟩ = some (.slice none 0 0) := cell_of hb 1
  have z2 : w2.cell? ⟨b7,2,none⟩ = some (.int .i64 0) := cell_of hb 2
  have z3 : w2.cell? ⟨b7,3,none⟩ = some (.int .i64 0) := cell_of hb 3
  have fz0 := free_of hb 0
  have fz1 := free_of hb 1
  have fz2 := free_of hb 2
  have fz3 := free_of hb 3
  have hHeld := And.intro (hg.cellF k3) (And.intro (hg.cellF k4) (And.intro (hg.cellF k5) (And.intro (hg.cellF k6) (hg.cellF k7))))
  clear hb hs hg
  refine norm_ (a':=?_) ?_ ?_
  rotate_left
  · simp only [putAll,Act.put,sA_,sB_,sC_]
    rfl
  refine last_ (i:=10) (N:=none) #[t_,t_,t_,t_,t_,t_,t_,t_,t_,t_,t_] rfl rfl (by kernel_rfl) (by decide) (fun K hK => ?_)
  refine skip_ (w1:=?_) (by rfl) rfl ?_ ?_
  rotate_left
  · go_simp
    rfl
  refine hK.out _ _ ?_
  clear hK K
  refine done_ (by kernel_rfl) ?_
  clear hHeld k3 k4 k5 k6 k7
  go_upto_region 8 with fail
  clear z0 z1 z2 z3 fz0 fz1 fz2 fz3
  obtain ⟨w3,hw3⟩ : ∃ yy,yy = (((w2.setCell ⟨b7,0,none⟩ (.int .i64 (n : Int))).setCell ⟨b7,1,none⟩ (.slice XA x.claims.length xcap)).setCell ⟨b7,2,none⟩ (.int .i64 x.state)).setCell ⟨b7,3,none⟩ (.int .i64 (x.granted : Int)) := ⟨_,rfl⟩
  rw [← hw3]
  have hF3 : Fr (fun _ => False) tag tag w w3 := by
    have h0 := HS.out
    have h1 := HF1.out.size
    rw [hw3]
    exact ((((HF1.out.trans HG.out).scn (by omega) _ _).scn (by omega) _ _).scn (by omega) _ _).scn (by omega) _ _
  have HF3 := Lib.hid hF3
  have HX3 : Hid (w3.heap[b7]? = some (.cells #[.int .i64 (n : Int),.slice XA x.claims.length xcap,.int .i64 x.state,.int .i64 (x.granted : Int)] 140 (0,0))) := Lib.hid (by
    rw [hw3,Go.Ng.heap_setCell_same (Go.Ng.heap_setCell_same (Go.Ng.heap_setCell_same (Go.Ng.heap_setCell_same HB.out 0 _) 1 _) 2 _) 3 _]
    rfl)
  have HRP3 := Lib.hid (HRP.out.frF hF3)
  have hok3 := hF3.dom
  have y2 : w3.cell? ⟨b7,2,none⟩ = some (.int .i64 x.state) := cell_of HX3.out 2
  have y3 : w3.cell? ⟨b7,3,none⟩ = some (.int .i64 (x.granted : Int)) := cell_of HX3.out 3
  have c1 : w3.cell? ⟨q,1,none⟩ = some (.slice FA N.flight.length fcap) := hF3.cellF C1.out
  clear hw3 hF3
  by_cases hst : x.state = 1
  · have hst2 : (x.state != 1) = false := by simp [hst]
    have HST := Lib.hid hst
    clear hst
    have hw1' : IntKind.i64.wrap ((N.flight.length : Int) + (x.granted : Int)) = (N.flight.length : Int) + (x.granted : Int) := IntWalk.i64_in _ (by omega)
    have hw2' : IntKind.i64.wrap ((N.flight.length : Int) + (x.granted : Int) + 1) = (N.flight.length : Int) + (x.granted : Int) + 1 := IntWalk.i64_in _ (by omega)
    have hw3' : decide ((20000 : Int) < (N.flight.length : Int) + (x.granted : Int) + 1) = false := by simp; omega
    go_upto_region 10 with fail
    go_quiet (fail)
    clear hw1' hw2' hw3'
    obtain ⟨w4,hw4⟩ : ∃ yy,yy = w3.drewN nq := ⟨_,rfl⟩
    rw [← hw4]
    have hA4 : Fr (fun _ => False) tag tag w3 w4 := by rw [hw4]; exact Fr.drewN hok3 nq
    have HF4 := Lib.hid (HF3.out.trans hA4)
    have HRP4 := Lib.hid (HRP3.out.frF hA4)
    have hok4 := hA4.dom
    clear hw4 hA4 c1 y2 y3
    go_upto_region 13 with (
      go_at_call 24
      refine (rdrop_val HRP4.out hok4 hR0 hRk HW.out.wf HW.out.nd HX.out HST.out HW.out.out T HTT.out).mono ?_
      rintro e w5 ⟨ov,tag5,rfl,h1,h2,h3⟩
      obtain ⟨OA,ocap,rfl,o1,o2⟩ := h1.form
      have K1 := Lib.hid h1
      have K2 := Lib.hid h2
      have K3 := Lib.hid (HF4.out.up.trans h3)
      clear h1 h2 h3)
    have hnB : ∀ r j,¬ (((B,r,j) : Tag).1 = B + 1 + p ∨ ((B,r,j) : Tag).1 = B + 33) := fun r j => by simp; omega
    have hps : (ps.set p pp).map rptr = ps.map rptr := by
      obtain ⟨hx1,hx2⟩ := List.getElem?_eq_some_iff.1 HPP.out
      rw [← hx2,List.set_getElem_self]
    have hN5 : RNRep tag5 B w5 q { N with places := N.places.set p { T with out := [],came := [] } } :=
      HN.out.set_place (p2 := pp) hpw K3.out (fun t h => by rcases h with h | h; exact .inl h; exact .inr (.inr (by omega))) h32 HCE.out HP1.out HP3.out (by rw [hps]; exact HP2.out.fr K3.out (hnB _ _)) (K2.out.congr rfl rfl rfl rfl)
    have HN5 := Lib.hid hN5
    have hce5 := K3.out.heap HCE.out (by rw [HN.out.tptr]; exact hnB _ _)
    have HCE5 := Lib.hid hce5
    have HQ5 := Lib.hid hN5.tptr
    have H45 := Lib.hid (H4.out.fr K3.out (hnB _ _))
    have HPR5 := Lib.hid (K1.out.rd (posts_one' _))
    have hok5 := K3.out.dom
    have c1 : w5.cell? ⟨q,1,none⟩ = some (.slice FA N.flight.length fcap) := cell_of hce5 1
    clear hps hN5 hce5
    go_upto_region 14 with (
      at_builtin
      refine append_any_list rfl (.tmp 62) (.tmp 63) 24 rfl (by rfl) (by rfl) H45.out hok5 Try.underlying24 hi49 hp0 hp1 hp2 rfl (by decide) HPR5.out (by unfold maxLen; omega) (by omega) ?_
      intro A6 cap6 w6 tag6 hrow hfr
      have hc6 := hfr.heap HCE5.out (by rw [HQ5.out]; simp)
      have d1 : w6.cell? ⟨q,1,none⟩ = some (.slice FA N.flight.length fcap) := cell_of hc6 1
      have dz1 := free_of hc6 1
      have HCE6 := Lib.hid hc6
      have HFR6 := Lib.hid hfr
      have HROW6 := Lib.hid hrow
      clear hrow hfr hc6)
    go_wp2_with fail
    go_ret
    have hq6 : tag6 q = (B,1,0) := (HFR6.out.same q (lt_of_heap HCE5.out)).trans HQ5.out
    have hs7 : Fr (fun t => t = (B,1,0)) tag6 tag6 w6 (w6.setCell ⟨q,1,none⟩ (.slice A6 (N.flight.length + T.out.length) cap6)) := Fr.setCell HFR6.out.dom (a := ⟨q,1,none⟩) hq6 _
    have hf7 : Fr (fun t => t = (B,1,0) ∨ t = (B,4,0)) tag5 tag6 w5 (w6.setCell ⟨q,1,none⟩ (.slice A6 (N.flight.length + T.out.length) cap6)) := (HFR6.out.mono (fun _ h => .inr h)).trans (hs7.mono (fun _ h => .inl h))
    refine ⟨fun h => absurd HST.out h,fun _ => ⟨rfl,tag6,?_,(K3.out.mono (fun t h => ?_)).trans (hf7.mono (fun t h => ?_))⟩⟩
    · have e : dropN N n p P x = { ({ N with places := N.places.set p { T with out := [],came := [] } } : NetM) with flight := N.flight ++ T.out } := by
        rw [dropN,takeN,HTT.out]; rfl
      rw [e]
      refine HN5.out.set_flight hf7 (fun t h => by rcases h with h | h; exact .inl h; exact .inr (.inl h)) (by simp; exact h32) _ ?_
      intro pv' fv' cv' hv'' yv' dv' hx
      obtain ⟨rfl,rfl,rfl,rfl,rfl,rfl⟩ : pv' = _ ∧ fv' = _ ∧ cv' = _ ∧ hv'' = _ ∧ yv' = yv ∧ dv' = dv := by
        have := hx.symm.trans HCE5.out
        simpa using this
      refine ⟨.slice A6 (N.flight.length + T.out.length) cap6,?_,?_⟩
      · rw [Go.Ng.heap_setCell_same HCE6.out]; rfl
      · rw [List.length_append,posts_app]
        exact HROW6.out.fr hs7 (by simp)
    · omega
    · rcases h with h | h <;> rw [h] <;> simp
  · have hst2 : (x.state != 1) = true := by rw [bne_iff_ne]; exact hst
    have HST := Lib.hid hst
    clear hst
    go_wp2_with fail
    go_ret
    exact ⟨fun _ => ⟨rfl,HF3.out⟩,fun h => absurd h HST.out⟩
end
def keysOf (P : PlaceM) : List Int := P.props.map (·.1)
theorem refuseAll_props (j : Nat) (n : Int) : ∀ (l : List Asker) (P : PlaceM) (it : ItemM),(refuseAll j n l P it).props = P.props
  | [],P,it => rfl
  | a :: l,P,it => (refuseAll_props j n l _ _).trans rfl
theorem takeM_keys (P : PlaceM) (m : Post) : keysOf (takeM P m) = keysOf P := by
  unfold takeM
  split
  · unfold grantedM
    split
    · rfl
    · split
      · exact upd_keys _ _ _
      · unfold keysOf
        rw [(commitM_same _ _ _).2.2.2.1]
        exact upd_keys _ _ _
  · split
    · unfold refusedM
      split
      · rfl
      · unfold keysOf
        rw [(freeM_same _ _ _).2.2.2.1]
        exact upd_keys _ _ _
    · split
      · rfl
      · split
        · unfold askedM
          split
          · rfl
          · split
            · rfl
            · split <;> rfl
        · split
          · unfold committedM
            split
            · unfold keysOf
              rw [refuseAll_props]
              rfl
            · rfl
          · unfold freedM
            split
            · split <;> rfl
            · rfl
theorem find_none_keys {l : List (Int × PropM)} {n : Int} (h : find l n = none) : n ∉ l.map (·.1) := by
  unfold find at h
  rw [Option.map_eq_none_iff,List.find?_eq_none] at h
  intro hm
  obtain ⟨x,hx,rfl⟩ := List.mem_map.1 hm
  have := h x hx
  simp at this
def ThrNd (g : G) : Prop := ∀ j,(g.items j).thr.Nodup
theorem addP_nodup {n : Int} {l : List Int} (h : l.Nodup) : (addP n l).Nodup := by
  unfold addP
  split
  · exact h
  · rename_i hn
    exact List.nodup_append.2 ⟨h,by simp,fun a ha b hb => by rw [List.mem_singleton.1 hb]; rintro rfl; exact hn ha⟩
theorem thrAll_nodup : ∀ {l t : List Int},t.Nodup → (thrAll l t).Nodup
  | [],t,h => h
  | a :: l,t,h => by rw [thrAll]; exact thrAll_nodup (addP_nodup h)
theorem setI_thr {g : G} (h : ThrNd g) {j : Int} {x : It} (hx : x.thr.Nodup) : ThrNd (g.setI j x) := by
  intro i
  show (if i = j then x else g.items i).thr.Nodup
  split
  · exact hx
  · exact h i
theorem takeG_thr {g : G} (h : ThrNd g) (m : Post) : ThrNd (g.takeG m).1 := by
  unfold G.takeG
  split
  · unfold G.grantedG
    split
    · split <;> exact h
    · exact h
  · split
    · unfold G.refusedG
      split <;> exact h
    · split
      · unfold G.askedG
        split
        · exact h
        · split
          · exact setI_thr h (addP_nodup (h _))
          · split
            · exact setI_thr h (h _)
            · exact setI_thr h (h _)
      · split
        · unfold G.committedG
          split
          · exact setI_thr h (thrAll_nodup (addP_nodup (h _)))
          · exact h
        · unfold G.freedG
          split
          · split
            · exact setI_thr h (addP_nodup (h _))
            · exact setI_thr h (addP_nodup (h _))
          · exact setI_thr h (addP_nodup (h _))
structure RLive (tag : Nat → Tag) (B : Nat) (w : World) (q : Nat) (N : NetM) (g : G) (k : Nat) : Prop where
  rep : RNRep tag B w q N
  abs : Abs N g
  good : NGood g
  np : g.np ≤ k
  wt : W1.all g ≤ 65 * k
  ok : TagOk tag w
  nd : ∀ (i : Nat) (P : PlaceM),N.places[i]? = some P → (keysOf P).Nodup
  tn : ThrNd g
section
variable {tag : Nat → Tag} {w : World} {B q : Nat} {N : NetM} {g : G} {k : Nat}
theorem RLive.small (L : RLive tag B w q N g k) (hk : k ≤ 150) : Small g := ⟨by have := L.np; omega,by have := L.wt; omega⟩
theorem RLive.fl_len (L : RLive tag B w q N g k) (hk : k ≤ 150) : N.flight.length ≤ 9750 := by
  rw [L.abs.fl]
  have := fl_le g
  have := L.wt
  omega
theorem RLive.p32 (L : RLive tag B w q N g k) : N.places.length ≤ 32 := by rw [L.abs.plen]; exact L.abs.p32.2
theorem RLive.fr {S : Tag → Prop} {tag' : Nat → Tag} {w' : World} (L : RLive tag B w q N g k) (hf : Fr S tag tag' w w') (hS : ∀ t,S t → t.1 < B ∨ B + 32 < t.1) : RLive tag' B w' q N g k :=
  ⟨L.rep.fr hf (fun i r j hi hs => by have := hS _ hs; have := L.p32; simp at *; omega),L.abs,L.good,L.np,L.wt,hf.dom,L.nd,L.tn⟩
theorem RLive.frF {tag' : Nat → Tag} {w' : World} (L : RLive tag B w q N g k) (hf : Fr (fun _ => False) tag tag' w w') : RLive tag' B w' q N g k := L.fr hf (fun _ h => h.elim)
theorem RLive.more (L : RLive tag B w q N g k) {k' : Nat} (h : k ≤ k') : RLive tag B w q N g k' := ⟨L.rep,L.abs,L.good,by have := L.np; omega,by have := L.wt; have := Nat.mul_le_mul_left 65 h; omega,L.ok,L.nd,L.tn⟩
theorem RLive.well (L : RLive tag B w q N g k) (hk : k ≤ 150) {i : Nat} {P : PlaceM} (h : N.places[i]? = some P) : RWell P := by
  have hA := L.abs.place i P h
  have I := L.good
  refine ⟨L.abs.wf I h,L.nd i P h,fun j it hj => ?_,hA.out,hA.came⟩
  have hl : j < g.n := by have := (List.getElem?_eq_some_iff.1 hj).1; rw [hA.ilen] at this; exact this
  obtain ⟨it',h1,h2⟩ := hA.items j hl (hA.foreign j it hj)
  rw [hj] at h1
  injection h1 with h1
  injection h1 with h1
  subst h1
  have h3 := queue_len I (j : Int)
  have h4 := hist_len I (j : Int)
  have h5 := I.inv.vh j
  have h6 := (L.small hk).np
  have htl : (g.items j).thr.length ≤ g.np := nodup_len (L.tn j) (fun x hx => by
    obtain ⟨c,_,hc⟩ := I.inv.tcl j x hx
    have := I.inv.rng _ _ _ hc
    omega)
  have hq := h2.queue
  have hv := h2.ver
  have hthr := h2.thr
  rw [hq,List.length_map] at h3
  rw [hv] at h5
  rw [hthr] at htl
  refine ⟨by rw [← hq]; exact I.inv.qnd j,fun a ha => ?_,fun hh => ?_,by omega,by omega,by omega⟩
  · rw [← hthr]
    exact I.inv.qt j a.prop (by rw [hq]; exact List.mem_map_of_mem ha)
  · have hho : (g.items j).hold = some it.lk.prop := by rw [h2.hold,if_pos hh]
    obtain ⟨k1,k2⟩ := I.inv.hh j _ hho
    obtain ⟨c,_,hc⟩ := I.inv.hcl j _ hho
    have hr := I.inv.rng _ _ _ hc
    refine ⟨by rw [← hthr]; exact k1,fun a ha e => k2 ?_,hr.1⟩
    rw [hq,← e]
    exact List.mem_map_of_mem ha
def RDid (tag : Nat → Tag) (B : Nat) (w : World) (q k : Nat) (r : G × Int × List Came × Int) (cv : Value) (w' : World) : Prop :=
  ∃ (tag' : Nat → Tag) (N' : NetM),RLive tag' B w' q N' r.1 k ∧ Rd 3 w' cv r.2.2.1.length (cames r.2.2.1) ∧ Fr (fun t => B ≤ t.1 ∧ t.1 ≤ B + 33) tag tag' w w'
theorem RLive.idle (L : RLive tag B w q N g k) {w' : World} (hf : Fr (fun _ => False) tag tag w w') (r e : Int) : RDid tag B w q (k + 1) (g,r,[],e) (.slice none 0 0) w' :=
  ⟨tag,N,(L.frF hf).more (Nat.le_succ k),⟨rfl,by simp [cames],.inl ⟨rfl,rfl⟩⟩,hf.mono (fun _ h => h.elim)⟩
theorem RDid.pre {w1 : World} {r : G × Int × List Came × Int} {cv : Value} {w' : World} (hf : Fr (fun _ => False) tag tag w w1) (h : RDid tag B w1 q k r cv w') : RDid tag B w q k r cv w' := by
  obtain ⟨tag',N',h1,h3,h4⟩ := h
  exact ⟨tag',N',h1,h3,(hf.mono (fun _ h => h.elim)).trans h4⟩
theorem RDid.more {k' : Nat} {r : G × Int × List Came × Int} {cv : Value} {w' : World} (hk : k ≤ k') (h : RDid tag B w q k r cv w') : RDid tag B w q k' r cv w' := by
  obtain ⟨tag',N',h1,h3,h4⟩ := h
  exact ⟨tag',N',h1.more hk,h3,h4⟩
theorem nd_set {N : NetM} {p : Nat} {P' : PlaceM} (h : ∀ (i : Nat) (P : PlaceM),N.places[i]? = some P → (keysOf P).Nodup) (hP : (keysOf P').Nodup) : ∀ (i : Nat) (P : PlaceM),(N.places.set p P')[i]? = some P → (keysOf P).Nodup := by
  intro i P hi
  rw [List.getElem?_set] at hi
  split at hi
  · split at hi
    · injection hi with hi; subst hi; exact hP
    · cases hi
  · exact h i P hi
theorem takeN_places (N : NetM) (l : List Post) (cs : List Came) : (takeN N l cs).places = N.places := notes_places cs _
theorem rlive_propose {n : Int} {l : List Clm} {v : Value} (L : RLive tag B w q N g k) (hk : k < 150) (hx : RdX tag w v l) :
    Calls Try.prog 94 #[.pointer (some ⟨q,0,none⟩),.int .i64 n,v] w fun e w' => e = .returned (.tuple #[.int .i64 (doP g n l).2.1,.int .i64 (doP g n l).2.2.2]) ∧ RDid tag B w q (k + 1) (doP g n l) (.slice none 0 0) w' := by
  have hS := L.small (by omega)
  by_cases h1 : n < 0 ∨ (g.places : Int) ≤ n
  · have hd : doP g n l = (g,0,[],271) := by rw [doP,if_pos h1]
    rw [hd]
    refine (rnpropose_place L.rep n v (by rw [L.abs.plen]; exact h1)).mono ?_
    rintro e w' ⟨rfl,hw⟩
    exact ⟨rfl,by rw [hw]; exact L.idle (Fr.refl L.ok) _ _⟩
  · obtain ⟨p,rfl⟩ : ∃ p : Nat,n = p := ⟨n.toNat,by omega⟩
    have hpl : p < N.places.length := by rw [L.abs.plen]; omega
    have hp : N.places[p]? = some N.places[p] := List.getElem?_eq_getElem hpl
    have hA := L.abs.place p _ hp
    cases hc : claimedB g.n l with
    | false =>
      have hd : doP g p l = (g,0,[],270) := by rw [doP,if_neg h1,if_pos hc]
      rw [hd]
      refine (rnpropose_no L.rep L.ok hpl (fun pp w1 hf hP => ?_)).mono ?_
      · rcases hx with ⟨hr,he⟩ | ⟨rfl,A,cap,rfl,hcap⟩
        · exact rright_val l false (by rw [hA.slen]; exact hc) hP (hr.frF hf) hf.dom
        · exact (rright_nil (k := 0) A cap w1).mono fun e w' ⟨a,b⟩ => ⟨a,by rw [b]; exact Fr.refl hf.dom⟩
      · rintro e w' ⟨rfl,hw⟩
        exact ⟨rfl,L.idle hw _ _⟩
    | true =>
      obtain ⟨c,hc0⟩ := claimed_head hc
      have hl := claimed_of hc
      have hd : doP g p l = (g.proposeG p l c,(g.np : Int),[],0) := by rw [doP,if_neg h1,if_neg (by simp [hc]),hc0]
      rw [hd]
      obtain ⟨hr,he⟩ : Rd 2 w v l.length (claims l) ∧ Ext tag w v := by
        rcases hx with h | ⟨rfl,_⟩
        · exact h
        · simp at hc0
      obtain ⟨hab,hf1,hf2⟩ := L.abs.propose L.good 0 hp hl hc0
      have hnp := L.np
      refine (rnpropose_ok l L.rep L.ok hp L.p32 hr he (by rw [hA.slen]; exact hc) (by rw [L.abs.clen]; exact hf2) (by have := hA.plen; omega) hA.out hA.came
        (by rw [L.abs.clen]; omega) (by rw [L.abs.hlen]; omega) (by have := L.fl_len (by omega); omega) (by have := hl.len; omega) (by omega)).mono ?_
      rintro e w' ⟨rfl,tag',hN,hF⟩
      refine ⟨by rw [L.abs.clen],tag',_,⟨hN,hab,L.good.propose hl hc0,by show g.np + 1 ≤ _; omega,?_,hF.dom,?_,L.tn⟩,⟨rfl,by simp [cames],.inl ⟨rfl,rfl⟩⟩,hF⟩
      · rw [wt_propose]
        have := L.wt
        have := hl.len.2
        show _ + 1 + l.length ≤ _
        omega
      · rw [proposeN,takeN_places]
        refine nd_set L.nd ?_
        have hcl : l[0]? = some c := hc0
        have e : keysOf { proposeM N.places[p] N.claims.length l 0 with out := [],came := [] } = keysOf N.places[p] ++ [(N.claims.length : Int)] := by
          rw [proposeM_eq hcl]; simp [keysOf]
        rw [e]
        refine List.nodup_append.2 ⟨L.nd p _ hp,by simp,fun a ha b hb => ?_⟩
        rw [List.mem_singleton.1 hb,L.abs.clen]
        rintro rfl
        exact find_none_keys hf2 ha
theorem rlive_drop {n : Int} (L : RLive tag B w q N g k) (hk : k < 150) :
    Calls Try.prog 95 #[.pointer (some ⟨q,0,none⟩),.int .i64 n] w fun e w' => e = .returned (.int .i64 (doD g n).2.2.2) ∧ RDid tag B w q (k + 1) (doD g n) (.slice none 0 0) w' := by
  have hS := L.small (by omega)
  by_cases h1 : n < 0 ∨ (g.np : Int) ≤ n
  · have hd : doD g n = (g,0,[],3) := by rw [doD,if_pos h1]
    rw [hd]
    refine (rndrop_none n L.rep (by rw [L.abs.clen]; rcases h1 with h | h <;> simp <;> omega)).mono ?_
    rintro e w' ⟨rfl,hw⟩
    exact ⟨rfl,by rw [hw]; exact L.idle (Fr.refl L.ok) _ _⟩
  · obtain ⟨p,rfl⟩ : ∃ p : Nat,n = p := ⟨n.toNat,by omega⟩
    obtain ⟨r,P,x,hh,hh2,hp,hf,hx,e1,e2,e3⟩ := L.abs.at_prop (n:=p) (by omega)
    have hnp := L.np
    have hA := L.abs.place r P hp
    have hW := L.well (by omega) hp
    have hlen := L.good.inv.len p
    have hdl : (dropM P p x).out.length ≤ 1000 := by
      have hin : x.claims.length ≤ 64 := by rw [e1]; exact hlen
      unfold dropM
      split
      · rw [hA.out]; simp
      · simp only [PlaceM.send,List.length_append,List.length_singleton]
        have := (freeM_same (p : Int) (x.claims.take x.granted) (setProp P p { x with state := 4 })).2.2.2.2.2.2.1
        rw [this]
        have : (setProp P p { x with state := 4 }).out = [] := hA.out
        rw [this]
        simp only [List.length_nil]
        have := List.length_take_le' x.granted x.claims
        omega
    refine (rndrop_ok (n:=p) L.rep L.ok L.p32 (by rw [L.abs.clen]; omega) hh2 hp hf hW (by have := hA.plen; omega) hdl (by have := L.fl_len (by omega); omega)).mono ?_
    rintro e w' ⟨hno,hyes⟩
    by_cases hst : (g.props p).st = 1
    · have hd : doD g p = (g.dropG p,0,[],0) := by rw [doD,if_neg h1,if_neg (by simp [hst])]
      rw [hd]
      obtain ⟨rfl,tag',hN,hF⟩ := hyes (by rw [e2]; exact hst)
      refine ⟨rfl,tag',_,⟨hN,(L.abs.drop L.good (by omega) hst hh hp hx).1,L.good.drop hst,by show g.np ≤ _; omega,?_,hF.dom,?_,L.tn⟩,⟨rfl,by simp [cames],.inl ⟨rfl,rfl⟩⟩,hF⟩
      · have := wt_drop W1_ok L.good hst; have := L.wt; simp only; omega
      · rw [dropN,takeN_places]
        refine nd_set L.nd ?_
        have hgl := L.good.inv.got1 p (.inl hst)
        obtain ⟨c,hc⟩ : ∃ c,x.claims[x.granted]? = some c := ⟨_,List.getElem?_eq_getElem (by rw [e1,e3]; exact hgl)⟩
        have e : keysOf { dropM P p x with out := [],came := [] } = keysOf P := by
          rw [dropM_eq hc]; exact upd_keys _ _ _
        rw [e]
        exact L.nd r P hp
    · have hd : doD g p = (g,0,[],273) := by rw [doD,if_neg h1,if_pos hst]
      rw [hd]
      obtain ⟨rfl,hF⟩ := hno (by rw [e2]; exact hst)
      exact ⟨rfl,L.idle hF _ _⟩
theorem rlive_deliver {n : Int} (L : RLive tag B w q N g k) (hk : k ≤ 150) :
    Calls Try.prog 96 #[.pointer (some ⟨q,0,none⟩),.int .i64 n] w fun e w' => ∃ cv,e = .returned (.tuple #[cv,.int .i64 (doL g n).2.2.2]) ∧ RDid tag B w q k (doL g n) cv w' := by
  have hS := L.small (by omega)
  by_cases h1 : n < 0 ∨ (g.fl.length : Int) ≤ n
  · have hd : doL g n = (g,0,[],272) := by rw [doL,if_pos h1]
    rw [hd]
    refine (rdeliver_out n L.rep (by rw [L.abs.fl]; exact h1)).mono ?_
    rintro e w' ⟨rfl,hw⟩
    exact ⟨_,rfl,tag,N,by rw [hw]; exact L,⟨rfl,by simp [cames],.inl ⟨rfl,rfl⟩⟩,by rw [hw]; exact Fr.refl L.ok⟩
  · obtain ⟨i,rfl⟩ : ∃ p : Nat,n = p := ⟨n.toNat,by omega⟩
    obtain ⟨m,hm⟩ : ∃ m,g.fl[i]? = some m := ⟨_,List.getElem?_eq_getElem (by omega)⟩
    have hd : doL g i = (g.deliverG i m,0,(g.takeG m).2.2,0) := by rw [doL,if_neg h1,Int.toNat_natCast,hm]
    rw [hd]
    have hmem := List.mem_of_getElem? hm
    have hi : N.flight[i]? = some m := by rw [L.abs.fl]; exact hm
    have R := L.good.route m hmem
    obtain ⟨k1,k2,c,_,hc⟩ := L.good.inv.mcl _ _ _ (has_mem hmem)
    obtain ⟨p0,pn,j0,jn⟩ := L.good.inv.rng _ _ _ hc
    have hdst : 0 ≤ m.dst ∧ m.dst < g.places := by
      by_cases e : m.kind = 2 ∨ m.kind = 3
      · rw [(R.dst.1 e).2]; exact L.abs.homer _ p0 pn
      · rw [(R.dst.2 (fun x => e (.inl x)) (fun x => e (.inr x))).2]; exact L.abs.siter _ j0 jn
    obtain ⟨p,hp⟩ := Int.eq_ofNat_of_zero_le hdst.1
    have hpl : p < N.places.length := by rw [L.abs.plen]; omega
    have hP : N.places[p]? = some N.places[p] := List.getElem?_eq_getElem hpl
    have hW := L.well hk hP
    obtain ⟨hv,hpr,hit⟩ := L.abs.valid L.good hS hP hmem hp
    obtain ⟨hab,hcame⟩ := L.abs.deliver L.good hi hp hP
    have hA := L.abs.place p _ hP
    have T := take_abs hA L.good hmem hp
    have hol := takeG_out_len L.good m
    have hnp := L.np
    have hcl : (takeM N.places[p] m).came.length ≤ 1 := by
      rw [hcame]
      have hC := takeG_cames (g := g) m
      generalize (g.takeG m).1 = g1 at hC
      generalize (g.takeG m).2.2 = cs at hC
      cases hC <;> simp
    have hcit : ∀ c ∈ (takeM N.places[p] m).came,c.kind = 3 → ∃ j : Nat,c.item = j ∧ j < N.history.length := by
      rw [hcame]
      have hC := takeG_cames (g := g) m
      generalize (g.takeG m).1 = g1 at hC
      generalize (g.takeG m).2.2 = cs at hC
      cases hC with
      | none => simp
      | done => simp
      | not => simp
      | moved =>
        intro c hc hk3
        rw [List.mem_singleton.1 hc]
        obtain ⟨j,hj⟩ := Int.eq_ofNat_of_zero_le j0
        exact ⟨j,hj,by rw [L.abs.ylen]; omega⟩
    refine (rdeliver_ok L.rep L.ok hi hp hP hv hW hpr hit L.p32 (by have := hA.plen; omega) (by have := L.fl_len (by omega); omega) (by rw [T.out]; omega) (by omega) hcit (by rw [L.abs.dec]; have := dec_len L.good; omega) (fun j => by have := getD_hist L.abs L.good j; omega)).mono ?_
    rintro e w' ⟨cv,rfl,tag',hN,hcv,hF⟩
    obtain ⟨s1,s2,s3,s4,s5,s6,s7⟩ := takeG_same (g := g) m
    refine ⟨cv,rfl,tag',_,⟨hN,hab,L.good.deliver hm,by show (g.takeG m).1.np ≤ _; rw [s4]; omega,?_,hF.dom,?_,fun j => takeG_thr L.tn m j⟩,?_,hF⟩
    · have := wt_deliver W1_ok L.good hm; have := L.wt; simp only; omega
    · rw [deliverN,takeN_places]
      refine nd_set L.nd ?_
      have e : keysOf { takeM N.places[p] m with out := [],came := [] } = keysOf N.places[p] := takeM_keys _ _
      rw [e]
      exact L.nd p _ hP
    · rw [hcame] at hcv; exact hcv.rd (cames_one _)
theorem rlive_double {n : Int} (L : RLive tag B w q N g k) (hk : k < 150) :
    Calls Try.prog 97 #[.pointer (some ⟨q,0,none⟩),.int .i64 n] w fun e w' => e = .returned (.int .i64 (doB g n).2.2.2) ∧ RDid tag B w q (k + 1) (doB g n) (.slice none 0 0) w' := by
  by_cases h1 : n < 0 ∨ (g.fl.length : Int) ≤ n
  · have hd : doB g n = (g,0,[],272) := by rw [doB,if_pos h1]
    rw [hd]
    refine (rdouble_out n L.rep (by rw [L.abs.fl]; exact h1)).mono ?_
    rintro e w' ⟨rfl,hw⟩
    exact ⟨rfl,by rw [hw]; exact L.idle (Fr.refl L.ok) _ _⟩
  · obtain ⟨i,rfl⟩ : ∃ p : Nat,n = p := ⟨n.toNat,by omega⟩
    obtain ⟨m,hm⟩ : ∃ m,g.fl[i]? = some m := ⟨_,List.getElem?_eq_getElem (by omega)⟩
    have hd : doB g i = ({ g with fl := g.fl ++ [m] },0,[],0) := by rw [doB,if_neg h1,Int.toNat_natCast,hm]
    rw [hd]
    refine (rdouble_ok L.rep L.ok (by rw [L.abs.fl]; exact hm) (by have := L.fl_len (by omega); omega) L.p32).mono ?_
    rintro e w' ⟨rfl,tag',hN,hF⟩
    have hnp := L.np
    refine ⟨rfl,tag',_,⟨hN,L.abs.double,L.good.double (List.mem_of_getElem? hm),by show g.np ≤ _; omega,?_,hF.dom,L.nd,L.tn⟩,⟨rfl,by simp [cames],.inl ⟨rfl,rfl⟩⟩,hF.mono (fun t h => by omega)⟩
    rw [wt_double]
    have h2 : W1.of m = 1 := by simp [Wt.of,W1]
    have := L.wt
    omega
set_option maxRecDepth 100000 in
set_option maxHeartbeats 1600000 in
theorem did_ok (o : OpM) {v : Value} (L : RLive tag B w q N g k) (hk : k < 150) (hr : RdX tag w v o.claims) :
    Calls Try.prog 32 #[.pointer (some ⟨q,0,none⟩),.agg #[.int .i64 o.kind,.int .i64 o.n,v]] w fun e w' => ∃ cv,e = .returned (.tuple #[.int .i64 (doG g o).2.1,cv,.int .i64 (doG g o).2.2.2]) ∧ RDid tag B w q (k + 1) (doG g o) cv w' := by
  obtain ⟨ok,on,oc⟩ := o
  simp only at hr ⊢
  obtain ⟨VA,vcap,rfl,q2⟩ := hr.slice
  have hF : Fr (fun _ => False) tag tag w (w.alloc (.cells #[.int .i64 ok,.int .i64 on,.slice VA oc.length vcap] 36)) := Fr.alloc L.ok _
  have HL := Lib.hid (L.frF hF)
  have HR := Lib.hid (hr.frF hF)
  have HF := Lib.hid hF
  have HL0 := Lib.hid L
  clear L hr hF
  by_cases h0 : ok = 0
  · subst h0
    have hd : doG g ⟨0,on,oc⟩ = doP g on oc := rfl
    rw [hd]
    clear hd
    have HC := Lib.hid (rlive_propose (n:=on) HL.out hk HR.out)
    go_enter Try.func32,Try.ntmps32
    go_wp2_with (go_at_call 94; refine HC.out.mono ?_; rintro e w' ⟨rfl,hD⟩; have HD := Lib.hid hD; clear hD)
    go_ret3
    exact ⟨_,rfl,HD.out.pre HF.out⟩
  · have h0' : (ok == 0) = false := by rw [beq_eq_false_iff_ne]; exact h0
    by_cases h1 : ok = 1
    · subst h1
      have hd : doG g ⟨1,on,oc⟩ = doD g on := rfl
      have hn : (doD g on).2.1 = 0 := by unfold doD; split <;> (try split) <;> rfl
      rw [hd,hn]
      clear hd hn h0
      have HC := Lib.hid (rlive_drop (n:=on) HL.out hk)
      go_enter Try.func32,Try.ntmps32
      go_wp2_with (go_at_call 95; refine HC.out.mono ?_; rintro e w' ⟨rfl,hD⟩; have HD := Lib.hid hD; clear hD)
      go_ret3
      exact ⟨_,rfl,HD.out.pre HF.out⟩
    · have h1' : (ok == 1) = false := by rw [beq_eq_false_iff_ne]; exact h1
      by_cases h2 : ok = 2
      · subst h2
        have hd : doG g ⟨2,on,oc⟩ = doL g on := rfl
        have hn : (doL g on).2.1 = 0 := by unfold doL; split <;> (try split) <;> rfl
        rw [hd,hn]
        clear hd hn h0 h1
        have HC := Lib.hid (rlive_deliver (n:=on) HL.out (by omega))
        go_enter Try.func32,Try.ntmps32
        go_wp2_with (go_at_call 96; refine HC.out.mono ?_; rintro e w' ⟨cv,rfl,hD⟩; have HD := Lib.hid hD; clear hD)
        go_ret3
        exact ⟨cv,rfl,(HD.out.pre HF.out).more (Nat.le_succ k)⟩
      · have h2' : (ok == 2) = false := by rw [beq_eq_false_iff_ne]; exact h2
        by_cases h3 : ok = 3
        · subst h3
          have hd : doG g ⟨3,on,oc⟩ = doB g on := rfl
          have hn : (doB g on).2.1 = 0 := by unfold doB; split <;> (try split) <;> rfl
          rw [hd,hn]
          clear hd hn h0 h1 h2
          have HC := Lib.hid (rlive_double (n:=on) HL.out hk)
          go_enter Try.func32,Try.ntmps32
          go_wp2_with (go_at_call 97; refine HC.out.mono ?_; rintro e w' ⟨rfl,hD⟩; have HD := Lib.hid hD; clear hD)
          go_ret3
          exact ⟨_,rfl,HD.out.pre HF.out⟩
        · have h3' : (ok == 3) = false := by rw [beq_eq_false_iff_ne]; exact h3
          have hd : doG g ⟨ok,on,oc⟩ = (g,0,[],0) := by simp [doG,h0,h1,h2,h3]
          rw [hd]
          clear hd h0 h1 h2 h3
          go_enter Try.func32,Try.ntmps32
          go_wp2_with fail
          go_ret3
          exact ⟨_,rfl,HL0.out.idle HF.out _ _⟩
end
section
variable {tag : Nat → Tag} {w : World} {B q : Nat} {N : NetM} {g : G} {K : Nat}
set_option maxRecDepth 100000 in
set_option maxHeartbeats 6400000 in
theorem rcalm_ok (choices : List Int) {v : Value} (L : RLive tag B w q N g K) (hK : K ≤ 150) (hr : Rd 1 w v choices.length (ints choices)) (he : Ext tag w v) (hc : choices.length ≤ 1000000) :
    Calls Try.prog 34 #[.pointer (some ⟨q,0,none⟩),v] w fun e w' => ∃ (k : Nat) (cv : Value),e = .returned (.tuple #[cv,.int .i64 0]) ∧ (calmN choices g k).1.fl = [] ∧ k ≤ W2.all g ∧
      ∃ (tag' : Nat → Tag) (N' : NetM),RLive tag' B w' q N' (calmN choices g k).1 K ∧ Row tag' (B + 34,1,0) 106 3 w' cv (calmN choices g k).2.length (cames (calmN choices g k).2) ∧ Fr (fun t => B ≤ t.1 ∧ t.1 ≤ B + 34) tag tag' w w' := by
  obtain ⟨i0,hi,hz0,hz1,hz2⟩ := info_parts Try.info106
  obtain ⟨CA,ccap,rfl,qq1,qq2⟩ := hr.slice
  unfold maxLen at qq2
  have HR := Lib.hid hr
  have HE := Lib.hid he
  have HL := Lib.hid L
  have hok := L.ok
  have hB0 := L.rep.b0
  have hW : W2.all g ≤ 1000000 := by have := wt_le L.good; have := L.wt; omega
  clear hr he L
  go_enter Try.func34,Try.ntmps34
  go_wp2_with fail
  go_loopw [6,7] (fun a i wr => ∃ k : Nat,k ≤ W2.all g ∧ i = .int .i64 k ∧ ∃ (tagr : Nat → Tag) (M : NetM),Hid (RLive tagr B wr q M (calmN choices g k).1 K) ∧ Hid (k + W2.all (calmN choices g k).1 ≤ W2.all g) ∧ Hid ((calmN choices g k).2.length ≤ k) ∧
    Hid (Row tagr (B + 34,1,0) 106 3 wr a (calmN choices g k).2.length (cames (calmN choices g k).2)) ∧ Hid (Fr (fun t => B ≤ t.1 ∧ t.1 ≤ B + 34) tag tagr w wr)) (fun _ i _ => W2.all g - (intOf i).toNat)
  case atStart => exact ⟨0,Nat.zero_le _,rfl,tag,N,HL,Lib.hid (by simp [calmN]),Lib.hid (by simp [calmN]),Lib.hid (Row.nil _ _ _ _ _),Lib.hid (Fr.refl hok)⟩
  case round =>
    obtain ⟨k,hk,rfl,tagr,M,HLr,HW,HLN,HRow,HFr⟩ := hrel
    obtain ⟨gk,hgk⟩ : ∃ x,x = (calmN choices g k).1 := ⟨_,rfl⟩
    obtain ⟨ck,hck⟩ : ∃ x,x = (calmN choices g k).2 := ⟨_,rfl⟩
    rw [← hgk] at HLr HW
    rw [← hck] at HLN HRow
    have HGK := Lib.hid hgk
    have HCK := Lib.hid hck
    clear hgk hck
    obtain ⟨RA,rcap,rfl,_,_⟩ := HRow.out.form
    obtain ⟨FA,fcap,c2'⟩ := rflight_cell HLr.out.rep
    rw [HLr.out.abs.fl] at c2'
    have hok1 := HFr.out.dom
    by_cases hz : gk.fl = []
    · have hz0' : gk.fl.length = 0 := by rw [hz]; rfl
      rw [hz0'] at c2'
      have HZ := Lib.hid hz
      clear hz hz0'
      go_wp2_with fail
      go_ret2
      exact ⟨k,_,rfl,by rw [← HGK.out]; exact HZ.out,hk,tagr,M,by rw [← HGK.out]; exact HLr.out,by rw [← HCK.out]; exact HRow.out,HFr.out⟩
    · have hlen : 0 < gk.fl.length := List.length_pos_iff.2 hz
      have hfl := HLr.out.fl_len hK
      rw [HLr.out.abs.fl] at hfl
      have hp := pickC_lt choices k _ hlen
      obtain ⟨m,hm,hd⟩ := doL_some hp
      have hwt := doL_wt HLr.out.good hp
      have hcl : (doL gk (pickC choices k gk.fl.length : Int)).2.2.1.length ≤ 1 := by
        rw [hd]
        have hC := takeG_cames (g := gk) m
        generalize (gk.takeG m).1 = g1 at hC
        simp only
        generalize (gk.takeG m).2.2 = cs at hC
        cases hC <;> simp
      have herr : (doL gk (pickC choices k gk.fl.length : Int)).2.2.2 = 0 := by rw [hd]
      have hfl2 := fl_le2 gk
      have hkW : k < W2.all g := by have := HW.out; omega
      have i1 : (0 : Int) < (gk.fl.length : Int) := by omega
      have HCL := Lib.hid hcl
      have HWT := Lib.hid hwt
      have HERR := Lib.hid herr
      have HRr := Lib.hid (HR.out.ext HE.out HFr.out (fun t h => by omega))
      have hckl : ck.length ≤ k := HLN.out
      clear hz hp hm hd hwt hcl herr hfl2
      by_cases hlt : k < choices.length
      · obtain ⟨x,hx⟩ : ∃ x,choices[k]? = some x := ⟨_,List.getElem?_eq_getElem hlt⟩
        obtain ⟨b,off,cap2,hv,_,_,e0⟩ := Rd.int HRr.out hx
        injection hv with hv _ hv2
        subst hv hv2
        have hbd := tmod_bd x gk.fl.length hlen
        have hbd2 := pick_bd x gk.fl.length hlen
        have hpk : ((pickC choices k gk.fl.length : Nat) : Int) = (x.tmod gk.fl.length + gk.fl.length).tmod gk.fl.length := by
          simp only [pickC,hx]; omega
        have HP := Lib.hid hpk
        have H1 : Hid (IntKind.i64.wrap (x.tmod (gk.fl.length : Int)) = x.tmod (gk.fl.length : Int)) := Lib.hid (IntWalk.i64_in _ (by omega))
        have H2 : Hid (IntKind.i64.wrap (x.tmod (gk.fl.length : Int) + (gk.fl.length : Int)) = x.tmod (gk.fl.length : Int) + (gk.fl.length : Int)) := Lib.hid (IntWalk.i64_in _ (by omega))
        have H3 : Hid (IntKind.i64.wrap ((x.tmod (gk.fl.length : Int) + (gk.fl.length : Int)).tmod (gk.fl.length : Int)) = ((pickC choices k gk.fl.length : Nat) : Int)) := Lib.hid (by rw [hpk]; exact IntWalk.i64_in _ (by omega))
        have h0 : ((gk.fl.length : Int) == 0) = false := by rw [beq_eq_false_iff_ne]; omega
        have i2 : (0 : Int) ≤ (k : Int) := by omega
        have i3 : (k : Int) < (choices.length : Int) := by omega
        clear hx hbd hbd2 hpk
        go_wp2_with fail
        have h1 := H1.out
        have h2 := H2.out
        have h3 := H3.out
        go_quiet (fail)
        simp only [← HP.out]
        have hFq : Fr (fun _ => False) tagr tagr wr (wr.drewN nq) := Fr.drewN hok1 _
        generalize wr.drewN nq = w2 at hFq ⊢
        have HQ := Lib.hid hFq
        clear hFq h1 h2 h3 h0 e0 c2'
        have hokq := HQ.out.dom
        have hD := rlive_deliver (n:=((pickC choices k gk.fl.length : Nat) : Int)) (HLr.out.frF HQ.out) hK
        rw [HERR.out] at hD
        have HD := Lib.hid hD
        have HRq := Lib.hid (HRow.out.fr HQ.out (fun x => x))
        clear hD
        go_wp2_with (first
        | (
          go_at_call 96
          refine HD.out.mono ?_
          rintro e w5 ⟨cv,rfl,tag5,M',hL5,hcv,hF5⟩
          obtain ⟨CVA,cvcap,rfl,_,_⟩ := hcv.slice
          have HL5 := Lib.hid hL5
          have HCV5 := Lib.hid hcv
          have HF5 := Lib.hid hF5
          have HR5 := Lib.hid (HRq.out.fr hF5 (fun h => by simp only at h; omega))
          clear hL5 hcv hF5)
        | (
          at_builtin
          refine append_any_list rfl (.tmp 53) (.tmp 54) 37 rfl (by rfl) (by rfl) HR5.out HF5.out.dom Try.underlying37 hi hz0 hz1 hz2 rfl (by decide) HCV5.out (by unfold maxLen; have := HCL.out; omega) (by have := HCL.out; omega) ?_
          intro A6 cap6 w6 tag6 hrow hfr
          have HROW6 := Lib.hid hrow
          have HF6 := Lib.hid hfr
          clear hrow hfr))
        go_roundw
        case rel =>
          have hc1 := HCL.out
          have e1 : (calmN choices g (k + 1)).1 = (doL gk ((pickC choices k gk.fl.length : Nat) : Int)).1 := by rw [HGK.out]; rfl
          have e2 : (calmN choices g (k + 1)).2 = ck ++ (doL gk ((pickC choices k gk.fl.length : Nat) : Int)).2.2.1 := by rw [HGK.out,HCK.out]; rfl
          refine ⟨k + 1,by omega,by go_num,tag6,M',Lib.hid ?_,Lib.hid ?_,Lib.hid ?_,Lib.hid ?_,Lib.hid (((HFr.out.trans (HQ.out.mono (fun _ h => h.elim))).trans (HF5.out.mono (fun t h => by omega))).trans (HF6.out.mono (fun t h => by rw [h]; simp)))⟩
          · rw [e1]; exact HL5.out.fr HF6.out (fun t h => by rw [h]; simp)
          · have := HWT.out; have := HW.out; rw [e1]; omega
          · rw [e2,List.length_append]; omega
          · rw [e2,List.length_append,show cames (ck ++ (doL gk ((pickC choices k gk.fl.length : Nat) : Int)).2.2.1) = cames ck ++ cames (doL gk ((pickC choices k gk.fl.length : Nat) : Int)).2.2.1 from by simp [cames]]
            exact HROW6.out
        case measure => simp [intOf]; omega
      · have i3 : (choices.length : Int) ≤ (k : Int) := by omega
        have hpk : pickC choices k gk.fl.length = 0 := by simp [pickC,List.getElem?_eq_none (show choices.length ≤ k by omega)]
        have HP := Lib.hid hpk
        have HQ : Hid (Fr (fun _ => False) tagr tagr wr wr) := Lib.hid (Fr.refl hok1)
        clear hpk
        have hokq := HQ.out.dom
        have hD := rlive_deliver (n:=((pickC choices k gk.fl.length : Nat) : Int)) (HLr.out.frF HQ.out) hK
        rw [HERR.out,show (Value.int .i64 ((pickC choices k gk.fl.length : Nat) : Int)) = .int .i64 0 from by rw [HP.out]; rfl] at hD
        have HD := Lib.hid hD
        have HRq := Lib.hid (HRow.out.fr HQ.out (fun x => x))
        clear hD
        go_wp2_with (first
        | (
          go_at_call 96
          refine HD.out.mono ?_
          rintro e w5 ⟨cv,rfl,tag5,M',hL5,hcv,hF5⟩
          obtain ⟨CVA,cvcap,rfl,_,_⟩ := hcv.slice
          have HL5 := Lib.hid hL5
          have HCV5 := Lib.hid hcv
          have HF5 := Lib.hid hF5
          have HR5 := Lib.hid (HRq.out.fr hF5 (fun h => by simp only at h; omega))
          clear hL5 hcv hF5)
        | (
          at_builtin
          refine append_any_list rfl (.tmp 53) (.tmp 54) 37 rfl (by rfl) (by rfl) HR5.out HF5.out.dom Try.underlying37 hi hz0 hz1 hz2 rfl (by decide) HCV5.out (by unfold maxLen; have := HCL.out; omega) (by have := HCL.out; omega) ?_
          intro A6 cap6 w6 tag6 hrow hfr
          have HROW6 := Lib.hid hrow
          have HF6 := Lib.hid hfr
          clear hrow hfr))
        go_roundw
        case rel =>
          have hc1 := HCL.out
          have e1 : (calmN choices g (k + 1)).1 = (doL gk ((pickC choices k gk.fl.length : Nat) : Int)).1 := by rw [HGK.out]; rfl
          have e2 : (calmN choices g (k + 1)).2 = ck ++ (doL gk ((pickC choices k gk.fl.length : Nat) : Int)).2.2.1 := by rw [HGK.out,HCK.out]; rfl
          refine ⟨k + 1,by omega,by go_num,tag6,M',Lib.hid ?_,Lib.hid ?_,Lib.hid ?_,Lib.hid ?_,Lib.hid (((HFr.out.trans (HQ.out.mono (fun _ h => h.elim))).trans (HF5.out.mono (fun t h => by omega))).trans (HF6.out.mono (fun t h => by rw [h]; simp)))⟩
          · rw [e1]; exact HL5.out.fr HF6.out (fun t h => by rw [h]; simp)
          · have := HWT.out; have := HW.out; rw [e1]; omega
          · rw [e2,List.length_append]; omega
          · rw [e2,List.length_append,show cames (ck ++ (doL gk ((pickC choices k gk.fl.length : Nat) : Int)).2.2.1) = cames ck ++ cames (doL gk ((pickC choices k gk.fl.length : Nat) : Int)).2.2.1 from by simp [cames]]
            exact HROW6.out
        case measure => simp [intOf]; omega
end
def begunP (i : Nat) (l : List Int) : PlaceM := ⟨0,0,i,l,l.map (fun s => if s = (i : Int) then some ⟨0,0,false,⟨0,0⟩,[],0,[]⟩ else none),[],[],[]⟩
theorem begunP_begun (i : Nat) (l : List Int) : Begun (begunP i l) i l l := by
  refine ⟨rfl,rfl,by simp [begunP],fun j it hj => ?_,fun j hj => ?_,rfl,rfl,rfl⟩
  · simp only [begunP,List.getElem?_map] at hj
    rcases h : l[j]? with _ | s
    · simp [h] at hj
    · simp only [h,Option.map_some,Option.some.injEq] at hj
      split at hj
      · rename_i e
        injection hj with hj
        subst hj
        exact ⟨by rw [e],rfl,rfl,rfl,rfl,rfl⟩
      · cases hj
  · exact ⟨⟨0,0,false,⟨0,0⟩,[],0,[]⟩,by simp [begunP,hj]⟩
theorem refItems_eq : ∀ n : Nat,(List.replicate n (⟨0,-1,.slice none 0 0,.slice none 0 0⟩ : RIt)).flatMap RIt.cells = refItems n
  | 0 => rfl
  | n + 1 => by
    rw [List.replicate_succ',List.flatMap_append,refItems_eq n]
    rfl
theorem RPlace0.rep {tag : Nat → Tag} {w : World} {k p i : Nat} {l : List Int} (h : RPlace0 tag k w p i l l.length) (hk : k ≠ 0) : RPRep tag k w p (begunP i l) := by
  obtain ⟨av,iv,h1,h2,h3⟩ := h.cells
  rw [List.take_length] at h2
  refine ⟨hk,h.ptr,av,iv,.slice none 0 0,h1,h2,⟨List.replicate l.length ⟨0,-1,.slice none 0 0,.slice none 0 0⟩,by simp [begunP],by rw [List.length_replicate,refItems_eq]; exact h3,fun j o x ho hx => ?_⟩,[],rfl,Row.nil _ _ _ _ _,fun i n y x a b => by simp at b⟩
  have hx' : x = ⟨0,-1,.slice none 0 0,.slice none 0 0⟩ := by
    rw [List.getElem?_replicate] at hx
    split at hx
    · injection hx with hx; exact hx.symm
    · cases hx
  subst hx'
  simp only [begunP,List.getElem?_map] at ho
  rcases hl : l[j]? with _ | s
  · simp [hl] at ho
  · simp only [hl,Option.map_some,Option.some.injEq] at ho
    split at ho
    · subst ho
      exact ⟨rfl,rfl,ORow.nil _ _ _ _,Row.nil _ _ _ _ _⟩
    · subst ho
      rfl
theorem rnew_live {tag : Nat → Tag} {w : World} {v : Value} (B places : Nat) (l : List Int) (hr : Rd 1 w v l.length (ints l)) (he : Ext tag w v) (hok : TagOk tag w) (hB : B ≠ 0) (hp1 : 1 ≤ places) (hp2 : places ≤ 32) (hl : rightB l places = true) :
    Calls Try.prog 30 #[.int .i64 (places : Int),v] w fun e w' => ∃ q : Nat,e = .returned (.tuple #[.pointer (some ⟨q,0,none⟩),.int .i64 0]) ∧ ∃ tag' N,RLive tag' B w' q N (beginG places l) 0 ∧ Fr (fun t => B ≤ t.1 ∧ t.1 ≤ B + 32) tag tag' w w' := by
  refine (rnew_ok B places l hr he hok hB hp1 hp2 hl).mono ?_
  rintro e w' ⟨q,rfl,tag',Ps,yv,ys,hPs,hN,hy,hys,hF⟩
  obtain ⟨pv,h1,h2⟩ := hN.cells
  refine ⟨q,rfl,tag',⟨0,(List.range places).map (fun i => begunP i l),l,[],[],[],List.replicate l.length [],[]⟩,⟨⟨hB,hN.ptr,pv,_,_,_,_,_,h1,⟨Ps,by simp [hPs],by have h2' := h2; rw [hPs] at h2'; show Row _ _ _ _ _ _ ((List.range places).map _).length _; rw [List.length_map,List.length_range]; exact h2',fun i p P a b => ?_⟩,Row.nil _ _ _ _ _,⟨[],Row.nil _ _ _ _ _,fun i l hl => by simp at hl⟩,Row.nil _ _ _ _ _,⟨ys,by simpa using hy,fun i l' hl' => ?_⟩,Row.nil _ _ _ _ _⟩,?_,beginG_good places l,Nat.le_refl _,by rw [beginG_wt]; omega,hF.dom,fun i P hi => ?_,fun j => by simp [beginG]⟩,hF⟩
  · have b' : ((List.range places).map (fun i => begunP i l))[i]? = some P := b
    have hi : i < places := by have := (List.getElem?_eq_some_iff.1 a).1; omega
    simp [hi] at b'
    subst b'
    exact (hN.places i p a).rep (by omega)
  · have hl2 : (List.replicate l.length ([] : List Int))[i]? = some l' := hl'
    rw [List.getElem?_replicate] at hl2
    split at hl2
    · rename_i hi
      injection hl2 with hl2
      subst hl2
      exact ⟨_,hys i hi,Row.nil _ _ _ _ _⟩
    · cases hl2
  · refine begin_abs ⟨hp1,hp2⟩ hl ⟨0,_,rfl,by simp,fun i P hi => ?_⟩
    have hi' : i < places := by have := (List.getElem?_eq_some_iff.1 hi).1; simpa using this
    simp [hi'] at hi
    subst hi
    exact begunP_begun i l
  · have hi2 : ((List.range places).map (fun i => begunP i l))[i]? = some P := hi
    have hi' : i < places := by have := (List.getElem?_eq_some_iff.1 hi2).1; simpa using this
    simp [hi'] at hi2
    subst hi2
    simp [keysOf,begunP]
end Go.Proofs.Ytclkokkppgchfaa
namespace Go.Ng
open Go Go.RowKit
section
variable {P : Program} {ops : Array Oper} {Q : Exit → Act → World → Prop} {tag : Nat → Tag} {t : Tag} {E sz : Nat} {w : World} {v : Value} {n : Nat} {ks : List Value}
end
end Go.Ng
namespace Go.Proofs.Ytclkokkppgchfaa
open Go.RowKit Go.Ng Go.Proofs.YtclkokkppgchfaaW.PrintLast
section
variable {tag : Nat → Tag} {w : World} {B k : Nat} {g : G}
theorem live_deliver2 {N : NetM} {i : Nat} {m : Post} (L : Live tag B w N g k) (hk : k ≤ 150) (hm : g.fl[i]? = some m) :
    Calls Try.prog 61 #[.pointer (some ⟨N.ptr,0,none⟩),.int .i64 (i : Int)] w fun e w' => ∃ cv,e = .returned (.tuple #[cv,.int .i64 0]) ∧ ∃ (tag' : Nat → Tag) (t : Tag),LiveP tag' B w' N.ptr (g.deliverG i m) k ∧ Row tag' t 106 3 w' cv (g.takeG m).2.2.length (cames (g.takeG m).2.2) ∧ (B < t.1 ∧ t.1 ≤ B + 32) ∧ Fr (fun t => B ≤ t.1 ∧ t.1 ≤ B + 32) tag tag' w w' := by
  have hS := L.small (by omega)
  have hmem := List.mem_of_getElem? hm
  have hi : N.flight[i]? = some m := by rw [L.abs.fl]; exact hm
  have R := L.good.route m hmem
  obtain ⟨k1,k2,c,_,hc⟩ := L.good.inv.mcl _ _ _ (has_mem hmem)
  obtain ⟨p0,pn,j0,jn⟩ := L.good.inv.rng _ _ _ hc
  have hdst : 0 ≤ m.dst ∧ m.dst < g.places := by
    by_cases e : m.kind = 2 ∨ m.kind = 3
    · rw [(R.dst.1 e).2]; exact L.abs.homer _ p0 pn
    · rw [(R.dst.2 (fun x => e (.inl x)) (fun x => e (.inr x))).2]; exact L.abs.siter _ j0 jn
  obtain ⟨p,hp⟩ := Int.eq_ofNat_of_zero_le hdst.1
  have hpl : p < N.places.length := by rw [L.abs.plen]; omega
  have hP : N.places[p]? = some N.places[p] := List.getElem?_eq_getElem hpl
  obtain ⟨ht,hq⟩ := L.abs.tame L.good hS hP
  obtain ⟨hv,hpr,hit⟩ := L.abs.valid L.good hS hP hmem hp
  obtain ⟨hab,hcame⟩ := L.abs.deliver L.good hi hp hP
  have hA := L.abs.place p _ hP
  have T := take_abs hA L.good hmem hp
  have hol := takeG_out_len L.good m
  have hnp := L.np
  have hcl : (takeM N.places[p] m).came.length ≤ 1 := by
    rw [hcame]
    have hC := takeG_cames (g := g) m
    generalize (g.takeG m).1 = g1 at hC
    generalize (g.takeG m).2.2 = cs at hC
    cases hC <;> simp
  have hcit : ∀ c ∈ (takeM N.places[p] m).came,c.kind = 3 → ∃ j : Nat,c.item = j ∧ j < N.history.length := by
    rw [hcame]
    have hC := takeG_cames (g := g) m
    generalize (g.takeG m).1 = g1 at hC
    generalize (g.takeG m).2.2 = cs at hC
    cases hC with
    | none => simp
    | done => simp
    | not => simp
    | moved =>
      intro c hc hk3
      rw [List.mem_singleton.1 hc]
      obtain ⟨j,hj⟩ := Int.eq_ofNat_of_zero_le j0
      exact ⟨j,hj,by rw [L.abs.ylen]; omega⟩
  refine (deliver_ok L.rep L.ok hi hp hP hv ht hq hpr hit (by have := L.fl_len (by omega); omega) (by rw [T.out]; omega) (by omega) hcit (by rw [L.abs.dec]; have := dec_len L.good; omega) (fun j => by have := getD_hist L.abs L.good j; omega)).mono ?_
  rintro e w' ⟨cv,rfl,tag',hN,hcv,hF⟩
  obtain ⟨s1,s2,s3,s4,s5,s6,s7⟩ := takeG_same (g := g) m
  have hpb : p < 32 := by have := L.abs.p32; rw [L.abs.plen] at hpl; omega
  refine ⟨cv,rfl,tag',(B + 1 + p,6,0),⟨_,?_,⟨hN,hab,L.good.deliver hm,by show (g.takeG m).1.np ≤ _; rw [s4]; omega,?_,hF.dom⟩⟩,by rw [hcame] at hcv; exact hcv,⟨by show B < B + 1 + p; omega,by show B + 1 + p ≤ B + 32; omega⟩,hF.mono (fun t h => by omega)⟩
  · exact (takeN_same _ _ _).1
  · have := wt_deliver W1_ok L.good hm; have := L.wt; omega
set_option maxRecDepth 100000 in
set_option maxHeartbeats 1600000 in
theorem p_do2 {p : Nat} {i : Nat} {m : Post} {v : Value} {oc : List Clm} (L : LiveP tag B w p g k) (hk : k ≤ 150) (hm : g.fl[i]? = some m) (hr : RdX tag w v oc) :
    Calls Try.prog 31 #[.pointer (some ⟨p,0,none⟩),.agg #[.int .i64 2,.int .i64 (i : Int),v]] w fun e w' => ∃ cv,e = .returned (.tuple #[.int .i64 0,cv,.int .i64 0]) ∧ ∃ (tag' : Nat → Tag) (t : Tag),LiveP tag' B w' p (g.deliverG i m) k ∧ Row tag' t 106 3 w' cv (g.takeG m).2.2.length (cames (g.takeG m).2.2) ∧ (B < t.1 ∧ t.1 ≤ B + 32) ∧ Fr (fun t => B ≤ t.1 ∧ t.1 ≤ B + 32) tag tag' w w' := by
  obtain ⟨VA,vcap,rfl,q2⟩ := hr.slice
  have hF : Fr (fun _ => False) tag tag w (w.alloc (.cells #[.int .i64 2,.int .i64 (i : Int),.slice VA oc.length vcap] 36)) := Fr.alloc L.ok _
  obtain ⟨N,rfl,LL⟩ := L.net
  have HC := Lib.hid (live_deliver2 (LL.frF hF) hk hm)
  have HF := Lib.hid hF
  clear L hr hF LL hm
  go_enter Try.func31,Try.ntmps31
  go_wp2_with (
    go_at_call 61
    refine HC.out.mono ?_
    rintro e w' ⟨cv,rfl,T,t,h1,h2,h3,h4⟩
    have H1 := Lib.hid h1
    have H2 := Lib.hid h2
    have H3 := Lib.hid h3
    have H4 := Lib.hid h4
    clear h1 h2 h3 h4)
  go_ret3
  exact ⟨cv,rfl,T,t,H1.out,H2.out,H3.out,(HF.out.mono (fun _ h => h.elim)).trans H4.out⟩
end
theorem nnew_bad {tag : Nat → Tag} {w : World} {v : Value} (places : Int) (l : List Int) (hr : Rd 1 w v l.length (ints l)) (hok : TagOk tag w) (hl : places < 1 ∨ 32 < places ∨ rightB l places = false) :
    Calls Try.prog 29 #[.int .i64 places,v] w fun e w' => e = .returned (.tuple #[.pointer none,.int .i64 271]) ∧ Fr (fun _ => False) tag tag w w' := by
  have HC := Lib.hid (right_ok l places w hr hok)
  by_cases h1 : places < 1
  · have i1 : decide (places < 1) = true := decide_eq_true h1
    clear hl h1 hr
    go_enter Try.func29,Try.ntmps29
    go_wp2_with fail
    go_ret2
    exact ⟨rfl,Fr.refl hok⟩
  · have i1 : decide (places < 1) = false := decide_eq_false h1
    by_cases h2 : 32 < places
    · have i2 : decide (32 < places) = true := decide_eq_true h2
      clear hl h1 h2 hr
      go_enter Try.func29,Try.ntmps29
      go_wp2_with fail
      go_ret2
      exact ⟨rfl,Fr.refl hok⟩
    · have i2 : decide (32 < places) = false := decide_eq_false h2
      have HL : Hid (rightB l places = false) := Lib.hid (by
        rcases hl with h | h | h
        · exact absurd h h1
        · exact absurd h h2
        · exact h)
      clear hl h1 h2 hr
      go_enter Try.func29,Try.ntmps29
      go_wp2_with (
        go_at_call 66
        refine HC.out.mono ?_
        rw [HL.out]
        rintro e w1 ⟨rfl,hw⟩
        have HW := Lib.hid hw
        clear hw)
      go_ret2
      exact ⟨rfl,HW.out⟩
theorem nil55 (w : World) (n : Int) (v : Value) : Calls Try.prog 55 #[.pointer none,.int .i64 n,v] w fun e w' => e = .returned (.tuple #[.int .i64 0,.slice none 0 0,.int .i64 271]) ∧ w' = w := by
  go_enter Try.func55,Try.ntmps55
  go_wp2_with fail
  go_ret3
  exact ⟨rfl,rfl⟩
theorem nil52 (w : World) (n : Int) : Calls Try.prog 52 #[.pointer none,.int .i64 n] w fun e w' => e = .returned (.int .i64 271) ∧ w' = w := by
  go_enter Try.func52,Try.ntmps52
  go_wp2_with fail
  go_ret
  exact ⟨rfl,rfl⟩
theorem nil61 (w : World) (n : Int) : Calls Try.prog 61 #[.pointer none,.int .i64 n] w fun e w' => e = .returned (.tuple #[.slice none 0 0,.int .i64 271]) ∧ w' = w := by
  go_enter Try.func61,Try.ntmps61
  go_wp2_with fail
  go_ret2
  exact ⟨rfl,rfl⟩
theorem nil93 (w : World) (n : Int) : Calls Try.prog 93 #[.pointer none,.int .i64 n] w fun e w' => e = .returned (.int .i64 271) ∧ w' = w := by
  go_enter Try.func93,Try.ntmps93
  go_wp2_with fail
  go_ret
  exact ⟨rfl,rfl⟩
theorem nil94 (w : World) (n : Int) (v : Value) : Calls Try.prog 94 #[.pointer none,.int .i64 n,v] w fun e w' => e = .returned (.tuple #[.int .i64 0,.int .i64 271]) ∧ w' = w := by
  go_enter Try.func94,Try.ntmps94
  go_wp2_with fail
  go_ret2
  exact ⟨rfl,rfl⟩
theorem nil95 (w : World) (n : Int) : Calls Try.prog 95 #[.pointer none,.int .i64 n] w fun e w' => e = .returned (.int .i64 271) ∧ w' = w := by
  go_enter Try.func95,Try.ntmps95
  go_wp2_with fail
  go_ret
  exact ⟨rfl,rfl⟩
theorem nil96 (w : World) (n : Int) : Calls Try.prog 96 #[.pointer none,.int .i64 n] w fun e w' => e = .returned (.tuple #[.slice none 0 0,.int .i64 271]) ∧ w' = w := by
  go_enter Try.func96,Try.ntmps96
  go_wp2_with fail
  go_ret2
  exact ⟨rfl,rfl⟩
theorem nil97 (w : World) (n : Int) : Calls Try.prog 97 #[.pointer none,.int .i64 n] w fun e w' => e = .returned (.int .i64 271) ∧ w' = w := by
  go_enter Try.func97,Try.ntmps97
  go_wp2_with fail
  go_ret
  exact ⟨rfl,rfl⟩
theorem nil33 (w : World) (v : Value) : Calls Try.prog 33 #[.pointer none,v] w fun e w' => e = .returned (.tuple #[.slice none 0 0,.int .i64 271]) ∧ w' = w := by
  go_enter Try.func33,Try.ntmps33
  go_wp2_with fail
  go_ret2
  exact ⟨rfl,rfl⟩
theorem nil34 (w : World) (v : Value) : Calls Try.prog 34 #[.pointer none,v] w fun e w' => e = .returned (.tuple #[.slice none 0 0,.int .i64 271]) ∧ w' = w := by
  go_enter Try.func34,Try.ntmps34
  go_wp2_with fail
  go_ret2
  exact ⟨rfl,rfl⟩
def errN (k : Int) : Int := if k = 0 ∨ k = 1 ∨ k = 2 ∨ k = 3 then 271 else 0
set_option maxHeartbeats 1600000 in
theorem nil_do {tag : Nat → Tag} (w : World) (hok : TagOk tag w) (k n : Int) (A : Option Addr) (m cap : Nat) : Calls Try.prog 31 #[.pointer none,.agg #[.int .i64 k,.int .i64 n,.slice A m cap]] w fun e w' => e = .returned (.tuple #[.int .i64 0,.slice none 0 0,.int .i64 (errN k)]) ∧ Fr (fun _ => False) tag tag w w' := by
  have hF : Fr (fun _ => False) tag tag w (w.alloc (.cells #[.int .i64 k,.int .i64 n,.slice A m cap] 36)) := Fr.alloc hok _
  have HF := Lib.hid hF
  clear hF
  by_cases h0 : k = 0
  · subst h0
    go_enter Try.func31,Try.ntmps31
    go_wp2_with (go_at_call 55; refine (nil55 _ _ _).mono ?_; rintro e w1 ⟨rfl,hw⟩; replace hw := hw.symm; subst hw)
    go_ret3
    exact ⟨rfl,HF.out⟩
  · have h0' : (k == 0) = false := by rw [beq_eq_false_iff_ne]; exact h0
    by_cases h1 : k = 1
    · subst h1
      clear h0
      go_enter Try.func31,Try.ntmps31
      go_wp2_with (go_at_call 52; refine (nil52 _ _).mono ?_; rintro e w1 ⟨rfl,hw⟩; replace hw := hw.symm; subst hw)
      go_ret3
      exact ⟨rfl,HF.out⟩
    · have h1' : (k == 1) = false := by rw [beq_eq_false_iff_ne]; exact h1
      by_cases h2 : k = 2
      · subst h2
        clear h0 h1
        go_enter Try.func31,Try.ntmps31
        go_wp2_with (go_at_call 61; refine (nil61 _ _).mono ?_; rintro e w1 ⟨rfl,hw⟩; replace hw := hw.symm; subst hw)
        go_ret3
        exact ⟨rfl,HF.out⟩
      · have h2' : (k == 2) = false := by rw [beq_eq_false_iff_ne]; exact h2
        by_cases h3 : k = 3
        · subst h3
          clear h0 h1 h2
          go_enter Try.func31,Try.ntmps31
          go_wp2_with (go_at_call 93; refine (nil93 _ _).mono ?_; rintro e w1 ⟨rfl,hw⟩; replace hw := hw.symm; subst hw)
          go_ret3
          exact ⟨rfl,HF.out⟩
        · have h3' : (k == 3) = false := by rw [beq_eq_false_iff_ne]; exact h3
          have he : errN k = 0 := by simp [errN,h0,h1,h2,h3]
          rw [he]
          clear he h0 h1 h2 h3
          go_enter Try.func31,Try.ntmps31
          go_wp2_with fail
          go_ret3
          exact ⟨rfl,HF.out⟩
set_option maxHeartbeats 1600000 in
theorem nil_did {tag : Nat → Tag} (w : World) (hok : TagOk tag w) (k n : Int) (A : Option Addr) (m cap : Nat) : Calls Try.prog 32 #[.pointer none,.agg #[.int .i64 k,.int .i64 n,.slice A m cap]] w fun e w' => e = .returned (.tuple #[.int .i64 0,.slice none 0 0,.int .i64 (errN k)]) ∧ Fr (fun _ => False) tag tag w w' := by
  have hF : Fr (fun _ => False) tag tag w (w.alloc (.cells #[.int .i64 k,.int .i64 n,.slice A m cap] 36)) := Fr.alloc hok _
  have HF := Lib.hid hF
  clear hF
  by_cases h0 : k = 0
  · subst h0
    go_enter Try.func32,Try.ntmps32
    go_wp2_with (go_at_call 94; refine (nil94 _ _ _).mono ?_; rintro e w1 ⟨rfl,hw⟩; replace hw := hw.symm; subst hw)
    go_ret3
    exact ⟨rfl,HF.out⟩
  · have h0' : (k == 0) = false := by rw [beq_eq_false_iff_ne]; exact h0
    by_cases h1 : k = 1
    · subst h1
      clear h0
      go_enter Try.func32,Try.ntmps32
      go_wp2_with (go_at_call 95; refine (nil95 _ _).mono ?_; rintro e w1 ⟨rfl,hw⟩; replace hw := hw.symm; subst hw)
      go_ret3
      exact ⟨rfl,HF.out⟩
    · have h1' : (k == 1) = false := by rw [beq_eq_false_iff_ne]; exact h1
      by_cases h2 : k = 2
      · subst h2
        clear h0 h1
        go_enter Try.func32,Try.ntmps32
        go_wp2_with (go_at_call 96; refine (nil96 _ _).mono ?_; rintro e w1 ⟨rfl,hw⟩; replace hw := hw.symm; subst hw)
        go_ret3
        exact ⟨rfl,HF.out⟩
      · have h2' : (k == 2) = false := by rw [beq_eq_false_iff_ne]; exact h2
        by_cases h3 : k = 3
        · subst h3
          clear h0 h1 h2
          go_enter Try.func32,Try.ntmps32
          go_wp2_with (go_at_call 97; refine (nil97 _ _).mono ?_; rintro e w1 ⟨rfl,hw⟩; replace hw := hw.symm; subst hw)
          go_ret3
          exact ⟨rfl,HF.out⟩
        · have h3' : (k == 3) = false := by rw [beq_eq_false_iff_ne]; exact h3
          have he : errN k = 0 := by simp [errN,h0,h1,h2,h3]
          rw [he]
          clear he h0 h1 h2 h3
          go_enter Try.func32,Try.ntmps32
          go_wp2_with fail
          go_ret3
          exact ⟨rfl,HF.out⟩
def CameV (B : Nat) (tag : Nat → Tag) (w : World) (v : Value) (l : List Came) : Prop := (∃ t : Tag,(B < t.1 ∧ t.1 ≤ B + 32) ∧ Row tag t 106 3 w v l.length (cames l)) ∨ (l = [] ∧ Rd 3 w v 0 [])
theorem CameV.later {S : Tag → Prop} {B : Nat} {tag tag' : Nat → Tag} {w w' : World} {v : Value} {l : List Came} (h : CameV B tag w v l) (hf : Fr S tag tag' w w') (hS : ∀ t,S t → t.1 ≤ B ∨ B + 32 < t.1) : Rd 3 w' v l.length (cames l) := by
  rcases h with ⟨t,ht,hr⟩ | ⟨rfl,hr⟩
  · exact (hr.fr hf (fun hs => by have := hS _ hs; omega)).rd (cames_one _)
  · refine ⟨rfl,by simp [cames],?_⟩
    rcases hr.form with h | ⟨b,off,cap,h1,h2,h3,_⟩
    · exact .inl h
    · exact .inr ⟨b,off,cap,h1,h2,h3,by simp [cames]⟩
theorem doG_came {g : G} {o : OpM} (h : ¬ (o.kind = 2 ∧ 0 ≤ o.n ∧ o.n < g.fl.length)) : (doG g o).2.2.1 = [] := by
  unfold doG
  split
  · unfold doP
    split
    · rfl
    · split
      · rfl
      · split <;> rfl
  · split
    · unfold doD
      split
      · rfl
      · split <;> rfl
    · split
      · rename_i h2
        unfold doL
        rw [if_pos (by
          by_cases e : o.n < 0
          · exact .inl e
          · right
            by_cases e2 : o.n < g.fl.length
            · exact absurd ⟨h2,by omega,e2⟩ h
            · omega)]
      · split
        · unfold doB
          split
          · rfl
          · split <;> rfl
        · rfl
theorem p_doR {tag : Nat → Tag} {w : World} {B p k : Nat} {g : G} (o : OpM) {v : Value} (L : LiveP tag B w p g k) (hk : k < 150) (hr : RdX tag w v o.claims) :
    Calls Try.prog 31 #[.pointer (some ⟨p,0,none⟩),.agg #[.int .i64 o.kind,.int .i64 o.n,v]] w fun e w' => ∃ cv,e = .returned (.tuple #[.int .i64 (doG g o).2.1,cv,.int .i64 (doG g o).2.2.2]) ∧ ∃ tag' : Nat → Tag,LiveP tag' B w' p (doG g o).1 (k + 1) ∧ CameV B tag' w' cv (doG g o).2.2.1 ∧ (∃ A cap,cv = .slice A (doG g o).2.2.1.length cap) ∧ Fr (fun t => B ≤ t.1 ∧ t.1 ≤ B + 32) tag tag' w w' := by
  by_cases h : o.kind = 2 ∧ 0 ≤ o.n ∧ o.n < g.fl.length
  · obtain ⟨ok,on,oc⟩ := o
    simp only at h hr
    obtain ⟨rfl,h0,h1⟩ := h
    obtain ⟨i,rfl⟩ := Int.eq_ofNat_of_zero_le h0
    have hi : i < g.fl.length := by omega
    obtain ⟨m,hm,hd⟩ := doL_some hi
    have he : doG g ⟨2,(i : Int),oc⟩ = (g.deliverG i m,0,(g.takeG m).2.2,0) := hd
    rw [he]
    refine (p_do2 L (by omega) hm hr).mono ?_
    rintro e w' ⟨cv,rfl,tag',t,h1,h2,h3,h4⟩
    obtain ⟨A,cap,hcv,_,_⟩ := h2.form
    exact ⟨cv,rfl,tag',h1.more (Nat.le_succ k),.inl ⟨t,h3,h2⟩,⟨A,cap,hcv⟩,h4⟩
  · have hc := doG_came h
    refine (p_do o L hk hr).mono ?_
    rintro e w' ⟨cv,rfl,⟨tag',h1,h2,h3⟩⟩
    obtain ⟨A,cap,hcv,_,_⟩ := h2.slice
    rw [hc] at h2 ⊢
    exact ⟨cv,rfl,tag',h1,.inr ⟨rfl,h2⟩,⟨A,cap,by rw [hc] at hcv; exact hcv⟩,h3⟩
theorem doL_len (g : G) (n : Int) : (doL g n).2.2.1.length ≤ 1 := by
  unfold doL
  split
  · simp
  · split
    · rename_i m _
      have hC := takeG_cames (g := g) m
      generalize (g.takeG m).1 = g1 at hC
      simp only
      generalize (g.takeG m).2.2 = cs at hC
      cases hC <;> simp
    · simp
theorem doG_len (g : G) (o : OpM) : (doG g o).2.2.1.length ≤ 1 := by
  by_cases h : o.kind = 2 ∧ 0 ≤ o.n ∧ o.n < g.fl.length
  · have e : doG g o = doL g o.n := by simp [doG,h.1]
    rw [e]
    exact doL_len _ _
  · rw [doG_came h]; simp
theorem calmN_len (choices : List Int) (g : G) : ∀ k,(calmN choices g k).2.length ≤ k
  | 0 => Nat.le_refl _
  | k + 1 => by
    have h1 := calmN_len choices g k
    have h2 := doL_len (calmN choices g k).1 (pickC choices k (calmN choices g k).1.fl.length)
    rw [calmN,List.length_append]
    omega
theorem runG_next {g : G} {l : List OpM} {n : Nat} {o : OpM} (h : l[n]? = some o) : runG g (l.take (n + 1)) = (doG (runG g (l.take n)) o).1 := by
  rw [List.take_add_one,h]
  exact runG_snoc _ _ _
theorem rd_nil3 (w : World) : Rd 3 w (.slice none 0 0) 0 (cames []) := ⟨rfl,by simp [cames],.inl ⟨rfl,rfl⟩⟩
set_option maxRecDepth 100000 in
set_option maxHeartbeats 12800000 in
theorem negoNets_ok {tag : Nat → Tag} {w : World} {vi vo vc : Value} {places : Int} {items choices : List Int} {l : List OpM} (hi : Rd 1 w vi items.length (ints items)) (hie : Ext tag w vi) (ho : OpsRd tag w vo l) (hc : Rd 1 w vc choices.length (ints choices)) (hce : Ext tag w vc) (hok : TagOk tag w) :
    Calls Try.prog 4 #[.int .i64 places,vi,vo,vc] w fun e w' => e = .returned (.bool true) ∧ ∃ tag',Fr (fun t => 1 ≤ t.1) tag tag' w w' := by
  have HS := fun {tag : Nat → Tag} {w : World} => @sane_ok tag w 1
  obtain ⟨IA,icap,rfl,q1,q2⟩ := hi.slice
  obtain ⟨LA,lcap,rfl,q3,q4⟩ := ho.slice
  obtain ⟨CA,ccap,rfl,q5,q6⟩ := hc.slice
  unfold maxLen at q2 q4 q6
  have HI := Lib.hid hi
  have HIE := Lib.hid hie
  have HO := Lib.hid ho
  have HC := Lib.hid hc
  have HCE := Lib.hid hce
  clear hi hie ho hc hce
  obtain ⟨bad,hbad⟩ : ∃ b : Bool,b = (!fewB items.length l || decide (400 < (choices.length : Int))) := ⟨_,rfl⟩
  go_enter Try.func4,Try.ntmps4
  go_upto_region 3 with (
      go_at_call 16
      refine (HS hok (by omega)).mono ?_
      rintro e w1 ⟨rfl,T1,hF1,hok1⟩
      have HI1 := Lib.hid (HI.out.ext HIE.out hF1 (fun t h => by omega))
      have HIE1 := Lib.hid (HIE.out.fr hF1)
      have HO1 := Lib.hid (HO.out.fr hF1 (fun t h => by omega))
      have HC1 := Lib.hid (HC.out.ext HCE.out hF1 (fun t h => by omega))
      have HCE1 := Lib.hid (HCE.out.fr hF1)
      have HF1 := Lib.hid (hF1.mono (S' := fun t => 1 ≤ t.1) (fun t h => by omega))
      clear hF1)
  have HFW := Lib.hid (few_ok HI1.out HO1.out HF1.out.dom)
  go_cut [33] (fun s wx => s = .bool bad ∧ Hid (Fr (fun _ => False) T1 T1 w1 wx))
  case first =>
    go_wp2_with (
      go_at_call 17
      refine HFW.out.mono ?_
      rintro e w3 ⟨rfl,hF3⟩
      have HF3 := Lib.hid hF3
      clear hF3)
    all_goals
      go_meet
      case rel => exact ⟨by rw [hbad]; (try simp [*]),HF3⟩
  case rest =>
  obtain ⟨rfl,HFx⟩ := hcut
  cases bad
  case true =>
    clear hbad
    go_wp2_with fail
    go_ret
    exact ⟨rfl,T1,HF1.out.trans (HFx.out.mono (fun _ h => h.elim))⟩
  case false =>
  obtain ⟨hb1,hb3⟩ : choices.length ≤ 400 ∧ fewB items.length l = true := by
    have := hbad.symm
    simp only [Bool.or_eq_false_iff,decide_eq_false_iff_not,Bool.not_eq_false',Int.not_lt] at this
    exact ⟨by omega,this.1⟩
  have hl80 : l.length ≤ 80 := by
    simp only [fewB,Bool.and_eq_true,decide_eq_true_eq] at hb3
    exact hb3.1.1
  have HFEW := Lib.hid hb3
  clear hbad hb3
  have HIc := Lib.hid (HI1.out.frF HFx.out)
  have HIEc := Lib.hid (HIE1.out.fr HFx.out)
  have HOc := Lib.hid (HO1.out.fr HFx.out (fun _ h => h.elim))
  have HCc := Lib.hid (HC1.out.frF HFx.out)
  have HCEc := Lib.hid (HCE1.out.fr HFx.out)
  have HFc := Lib.hid (HF1.out.trans (HFx.out.mono (S' := fun t => 1 ≤ t.1) (fun _ h => h.elim)))
  by_cases hv : places < 1 ∨ 32 < places ∨ rightB items places = false
  · have HV := Lib.hid hv
    clear hv
    go_upto_region 7 with (first
    | (
      go_at_call 29
      refine (nnew_bad places items HIc.out HFc.out.dom HV.out).mono ?_
      rintro e w2 ⟨rfl,hF2⟩
      have HF2 := Lib.hid (HFc.out.trans (hF2.mono (fun _ h => h.elim)))
      have HI2 := Lib.hid (HIc.out.frF hF2)
      have HO2 := Lib.hid (HOc.out.fr hF2 (fun _ h => h.elim))
      clear hF2)
    | (
      go_at_call 30
      refine (rnew_bad places items HI2.out HV.out).mono ?_
      rintro e w' ⟨rfl,hw⟩
      replace hw := hw.symm
      subst hw))
    have hok2 := HF2.out.dom
    go_wp2_with fail
    go_loopw [58] (fun i wr => ∃ n : Nat,n ≤ l.length ∧ i = .int .i64 n ∧ Hid (Fr (fun _ => False) T1 T1 w2 wr)) (fun i _ => l.length - (intOf i).toNat)
    case atStart => exact ⟨0,Nat.zero_le _,rfl,Lib.hid (Fr.refl hok2)⟩
    case round =>
      obtain ⟨n,hn,rfl,HFr⟩ := hrel
      have hokr := HFr.out.dom
      by_cases hlt : n < l.length
      · obtain ⟨⟨ok,on,cs⟩,hx⟩ : ∃ o,l[n]? = some o := ⟨_,List.getElem?_eq_getElem hlt⟩
        obtain ⟨ob,ooff,ocap',u,hov,o0,o1,o2,hxr⟩ := (HO2.out.fr HFr.out (fun t h => h.elim)).get hx
        injection hov with hov _ hov2
        subst hov hov2
        simp only at o0 o1 o2 hxr
        obtain ⟨UA,ucap,rfl,u2⟩ := hxr.slice
        unfold maxLen at u2
        have i5 : (0 : Int) ≤ (n : Int) := by omega
        have i6 : (n : Int) < (l.length : Int) := by omega
        clear hx hxr
        go_upto_region 12 with fail
        obtain ⟨w5,hw5⟩ : ∃ y,y = wr.alloc (.cells #[.int .i64 ok,.int .i64 on,.slice UA cs.length ucap] 36) := ⟨_,rfl⟩
        obtain ⟨bo,hbo⟩ : ∃ y,y = wr.heap.size := ⟨_,rfl⟩
        have hF5 : Fr (fun _ => False) T1 T1 wr w5 := by rw [hw5]; exact Fr.alloc hokr _
        have a0 : w5.cell? ⟨bo,0,none⟩ = some (.int .i64 ok) := by rw [hw5,hbo]; go_simp
        have a1 : w5.cell? ⟨bo,1,none⟩ = some (.int .i64 on) := by rw [hw5,hbo]; go_simp
        have a2 : w5.cell? ⟨bo,2,none⟩ = some (.slice UA cs.length ucap) := by rw [hw5,hbo]; go_simp
        rw [← hw5,← hbo]
        have hok5 := hF5.dom
        have HF5 := Lib.hid (HFr.out.trans hF5)
        clear hw5 hbo hF5 o0 o1 o2
        go_wp2_with (first
        | (
          go_at_call 31
          refine (nil_do _ hok5 ok on UA cs.length ucap).mono ?_
          rintro e w6 ⟨rfl,hF6⟩
          have b0 := hF6.cellF a0
          have b1 := hF6.cellF a1
          have b2 := hF6.cellF a2
          have hok6 := hF6.dom
          have HF6 := Lib.hid (HF5.out.trans hF6)
          clear hF6)
        | (
          go_at_call 32
          refine (nil_did _ hok6 ok on UA cs.length ucap).mono ?_
          rintro e w7 ⟨rfl,hF7⟩
          have hok7 := hF7.dom
          have HF7 := Lib.hid (HF6.out.trans hF7)
          clear hF7)
        | (
          go_at_call 27
          refine (sameCame_ok [] (rd_nil3 _) (rd_nil3 _) hok7 (by simp)).mono ?_
          rintro e w8 ⟨rfl,hF8⟩
          have HF8 := Lib.hid (HF7.out.trans hF8)
          clear hF8))
        go_roundw
        case rel => exact ⟨n + 1,by omega,by go_num,HF8⟩
        case measure => simp [intOf]; omega
      · have : n = l.length := by omega
        subst this
        go_wp2_with (first
        | (
          go_at_call 33
          refine (nil33 _ _).mono ?_
          rintro e w5 ⟨rfl,hw⟩
          replace hw := hw.symm
          subst hw)
        | (
          go_at_call 34
          refine (nil34 _ _).mono ?_
          rintro e w6 ⟨rfl,hw⟩
          replace hw := hw.symm
          subst hw)
        | (
          go_at_call 27
          refine (sameCame_ok [] (rd_nil3 _) (rd_nil3 _) hokr (by simp)).mono ?_
          rintro e w8 ⟨rfl,hF8⟩
          have HF8 := Lib.hid (HFr.out.trans hF8)
          clear hF8))
        go_ret
        exact ⟨rfl,T1,HF2.out.trans (HF8.out.mono (fun _ h => h.elim))⟩
  · obtain ⟨hp1,hp2,hright⟩ : 1 ≤ places ∧ places ≤ 32 ∧ rightB items places = true := by
      simp only [not_or,Bool.not_eq_false,Int.not_lt] at hv
      exact hv
    clear hv
    obtain ⟨pl,rfl⟩ : ∃ pl : Nat,places = pl := ⟨places.toNat,by omega⟩
    have HRG := Lib.hid hright
    have hpl1 : 1 ≤ pl := by omega
    have hpl2 : pl ≤ 32 := by omega
    clear hright hp1 hp2
    go_upto_region 7 with (first
    | (
      go_at_call 29
      refine (p_new 100 pl items HIc.out HIEc.out HFc.out.dom (by omega) hpl1 hpl2 HRG.out).mono ?_
      rintro e w3 ⟨p,rfl,T3,hL3,hF3⟩
      have HL3 := Lib.hid hL3
      have HI3 := Lib.hid (HIc.out.ext HIEc.out hF3 (fun t h => by omega))
      have HIE3 := Lib.hid (HIEc.out.fr hF3)
      have HO3 := Lib.hid (HOc.out.fr hF3 (fun t h => by omega))
      have HC3 := Lib.hid (HCc.out.ext HCEc.out hF3 (fun t h => by omega))
      have HCE3 := Lib.hid (HCEc.out.fr hF3)
      have HF3 := Lib.hid (HFc.out.trans (hF3.mono (fun t h => by omega)))
      clear hF3 hL3)
    | (
      go_at_call 30
      refine (rnew_live 140 pl items HI3.out HIE3.out HF3.out.dom (by omega) hpl1 hpl2 HRG.out).mono ?_
      rintro e w4 ⟨q,rfl,T4,N4,hR4,hF4⟩
      have HR4 := Lib.hid hR4
      have HL4 := Lib.hid (HL3.out.fr hF4 (fun t h => by omega))
      have HO4 := Lib.hid (HO3.out.fr hF4 (fun t h => by omega))
      have HC4 := Lib.hid (HC3.out.ext HCE3.out hF4 (fun t h => by omega))
      have HCE4 := Lib.hid (HCE3.out.fr hF4)
      have HF4 := Lib.hid (HF3.out.trans (hF4.mono (fun t h => by omega)))
      clear hF4 hR4))
    have hok4 := HF4.out.dom
    go_wp2_with fail
    go_loopw [58] (fun i wr => ∃ n : Nat,n ≤ l.length ∧ i = .int .i64 n ∧ ∃ (Tr : Nat → Tag) (N : NetM),Hid (LiveP Tr 100 wr p (runG (beginG pl items) (l.take n)) n) ∧ Hid (RLive Tr 140 wr q N (runG (beginG pl items) (l.take n)) n) ∧ Hid (Fr (fun t => 100 ≤ t.1 ∧ t.1 ≤ 174) T4 Tr w4 wr)) (fun i _ => l.length - (intOf i).toNat)
    case atStart => exact ⟨0,Nat.zero_le _,rfl,T4,N4,HL4,HR4,Lib.hid (Fr.refl hok4)⟩
    case round =>
      obtain ⟨n,hn,rfl,Tr,N,HLr,HRr,HFr⟩ := hrel
      have hokr := HFr.out.dom
      obtain ⟨gn,hgn⟩ : ∃ y,y = runG (beginG pl items) (l.take n) := ⟨_,rfl⟩
      rw [← hgn] at HLr HRr
      by_cases hlt : n < l.length
      · obtain ⟨⟨ok,on,cs⟩,hx⟩ : ∃ o,l[n]? = some o := ⟨_,List.getElem?_eq_getElem hlt⟩
        have HNX := Lib.hid (runG_next (g := beginG pl items) hx)
        rw [← hgn] at HNX
        obtain ⟨ob,ooff,ocap',u,hov,o0,o1,o2,hxr⟩ := (HO4.out.fr HFr.out (fun t h => by omega)).get hx
        injection hov with hov _ hov2
        subst hov hov2
        simp only at o0 o1 o2 hxr
        obtain ⟨UA,ucap,rfl,u2⟩ := hxr.slice
        unfold maxLen at u2
        have HXO := Lib.hid hxr
        have i5 : (0 : Int) ≤ (n : Int) := by omega
        have i6 : (n : Int) < (l.length : Int) := by omega
        clear hx hxr hgn
        go_upto_region 12 with fail
        obtain ⟨w5,hw5⟩ : ∃ y,y = wr.alloc (.cells #[.int .i64 ok,.int .i64 on,.slice UA cs.length ucap] 36) := ⟨_,rfl⟩
        obtain ⟨bo,hbo⟩ : ∃ y,y = wr.heap.size := ⟨_,rfl⟩
        have hF5 : Fr (fun _ => False) Tr Tr wr w5 := by rw [hw5]; exact Fr.alloc hokr _
        have a0 : w5.cell? ⟨bo,0,none⟩ = some (.int .i64 ok) := by rw [hw5,hbo]; go_simp
        have a1 : w5.cell? ⟨bo,1,none⟩ = some (.int .i64 on) := by rw [hw5,hbo]; go_simp
        have a2 : w5.cell? ⟨bo,2,none⟩ = some (.slice UA cs.length ucap) := by rw [hw5,hbo]; go_simp
        have HTO : Hid ((Tr bo).1 = 0) := Lib.hid (by rw [hbo]; exact hokr.new)
        rw [← hw5,← hbo]
        have HL5 := Lib.hid (HLr.out.frF hF5)
        have HR5 := Lib.hid (HRr.out.frF hF5)
        have HX5 := Lib.hid (HXO.out.frF hF5)
        have HF5 := Lib.hid (HFr.out.trans (hF5.mono (fun _ h => h.elim)))
        have hlen := doG_len gn ⟨ok,on,cs⟩
        have HLEN := Lib.hid hlen
        clear hw5 hbo hF5 o0 o1 o2 hlen
        obtain ⟨rr,hrr⟩ : ∃ y,y = (doG gn ⟨ok,on,cs⟩).2.1 := ⟨_,rfl⟩
        obtain ⟨re,hre⟩ : ∃ y,y = (doG gn ⟨ok,on,cs⟩).2.2.2 := ⟨_,rfl⟩
        have HRR := Lib.hid hrr
        have HRE := Lib.hid hre
        clear hrr hre
        go_upto_region 14 with (first
        | (
          go_at_call 31
          refine (p_doR ⟨ok,on,cs⟩ HL5.out (by omega) HX5.out).mono ?_
          rw [← HRR.out,← HRE.out]
          rintro e w6 ⟨cv1,rfl,T6,hL6,hC6,⟨VA,vcap,rfl⟩,hF6⟩
          have b0 := hF6.cell a0 (by rw [HTO.out]; omega)
          have b1 := hF6.cell a1 (by rw [HTO.out]; omega)
          have b2 := hF6.cell a2 (by rw [HTO.out]; omega)
          have HL6 := Lib.hid hL6
          have HC6 := Lib.hid hC6
          have HR6 := Lib.hid (HR5.out.fr hF6 (fun t h => by omega))
          have HX6 := Lib.hid (HX5.out.fr hF6 (fun t h => by omega))
          have HF6 := Lib.hid (HF5.out.trans (hF6.mono (fun t h => by omega)))
          clear hF6 hL6 hC6 a0 a1 a2)
        | (
          go_at_call 32
          refine (did_ok ⟨ok,on,cs⟩ HR6.out (by omega) HX6.out).mono ?_
          rw [← HRR.out,← HRE.out]
          rintro e w7 ⟨cv2,rfl,T7,N7,hR7,hd7,hF7⟩
          obtain ⟨WA,wcap,rfl,_,_⟩ := hd7.slice
          have HR7 := Lib.hid hR7
          have HD7 := Lib.hid hd7
          have HC7 := Lib.hid (HC6.out.later hF7 (fun t h => by omega))
          have HL7 := Lib.hid (HL6.out.fr hF7 (fun t h => by omega))
          have HF7 := Lib.hid (HF6.out.trans (hF7.mono (fun t h => by omega)))
          clear hF7 hR7 hd7))
        have hok7 := HF7.out.dom
        have e1 : (rr != rr) = false := by simp
        have e2 : (re != re) = false := by simp
        have e3 : (rr == rr) = true := by simp
        have e4 : (re == re) = true := by simp
        go_wp2_with (
          go_at_call 27
          refine (sameCame_ok (doG gn ⟨ok,on,cs⟩).2.2.1 HC7.out HD7.out hok7 (by have := HLEN.out; omega)).mono ?_
          rintro e w8 ⟨rfl,hF8⟩
          have HL8 := Lib.hid (HL7.out.frF hF8)
          have HR8 := Lib.hid (HR7.out.frF hF8)
          have HF8 := Lib.hid (HF7.out.trans (hF8.mono (fun _ h => h.elim)))
          clear hF8)
        go_roundw
        case rel => exact ⟨n + 1,by omega,by go_num,T7,N7,by rw [HNX.out]; exact HL8,by rw [HNX.out]; exact HR8,HF8⟩
        case measure => simp [intOf]; omega
      · have : n = l.length := by omega
        subst this
        have hW : W2.all gn ≤ 100000 := by have := wt_le HRr.out.good; have := HRr.out.wt; omega
        have HCr := Lib.hid (HC4.out.ext HCE4.out HFr.out (fun t h => by omega))
        have HCEr := Lib.hid (HCE4.out.fr HFr.out)
        clear hgn
        go_upto_region 19 with (first
        | (
          go_at_call 33
          refine (p_calm choices HLr.out (by omega) HCr.out HCEr.out (by omega)).mono ?_
          rintro e w5 ⟨m5,cv5,rfl,hf5,hm5,T5,hL5,hr5,hF5⟩
          obtain ⟨VA,vcap,rfl,_,_⟩ := hr5.form
          have HFL5 := Lib.hid hf5
          have HR5 := Lib.hid (HRr.out.fr hF5 (fun t h => by omega))
          have HROW5 := Lib.hid hr5
          have HC5 := Lib.hid (HCr.out.ext HCEr.out hF5 (fun t h => by omega))
          have HCE5 := Lib.hid (HCEr.out.fr hF5)
          have HF5 := Lib.hid (HFr.out.trans (hF5.mono (fun t h => by omega)))
          clear hf5 hL5 hr5 hF5)
        | (
          go_at_call 34
          refine (rcalm_ok choices HR5.out (by omega) HC5.out HCE5.out (by omega)).mono ?_
          rintro e w6 ⟨m6,cv6,rfl,hf6,hm6,T6,N6,hR6,hr6,hF6⟩
          obtain ⟨WA,wcap,rfl,_,_⟩ := hr6.form
          have hsame := calmN_same hf6 HFL5.out
          have HROW6 := Lib.hid (hr6.rd (cames_one _))
          have HR65 := Lib.hid ((HROW5.out.fr hF6 (by simp)).rd (cames_one _))
          have HF6 := Lib.hid (HF5.out.trans (hF6.mono (fun t h => by omega)))
          have HSAME := Lib.hid hsame
          clear hf6 hR6 hr6 hF6 hsame))
        have hok6 := HF6.out.dom
        have hlen := calmN_len choices gn m5
        have HRB := HROW6.out
        rw [HSAME.out] at HRB
        have HRB6 := Lib.hid HRB
        have heq : (calmN choices gn m6).2.length = (calmN choices gn m5).2.length := by rw [HSAME.out]
        have HEQ := Lib.hid heq
        clear HRB heq
        go_wp2_with (
          go_at_call 27
          rw [HEQ.out]
          refine (sameCame_ok (calmN choices gn m5).2 HR65.out HRB6.out hok6 (by omega)).mono ?_
          rintro e w8 ⟨rfl,hF8⟩
          have HF8 := Lib.hid (HF6.out.trans (hF8.mono (fun _ h => h.elim)))
          clear hF8)
        go_ret
        exact ⟨rfl,T6,HF4.out.trans (HF8.out.mono (fun t h => by omega))⟩
end Go.Proofs.Ytclkokkppgchfaa
namespace Go.Proofs.Ytclkokkppgchfaa
open Go.ChangeShapes Go.WideShapes Go.ChangeAt Go.RowKit Go.Joins Go.Deep Go.Ng
section
variable {H : Type} {enc : TypeId × Value → H} {w : World} {base base0 : Nat} {spare : Nat → Bool} {held : Bool}
set_option maxRecDepth 100000 in
theorem open_ints_arg {v : Value} {d : DataW H} {p : List MemPlace} (hv : Value.okWide Try.prog w .any base0 22 v) (h : DataW.Trod enc Try.prog w base spare held 22 v d p) : ∃ l : List Int,Rd 1 w v l.length (ints l) ∧ Ext tag0 w v := by
  obtain ⟨a,len,cap,rfl⟩ := okWide_slice Try.underlying22 hv
  obtain ⟨n,hn⟩ := h
  refine open_intsRd hn (base0 := base0) ?_
  simpa only [Value.okWide,Try.underlying22] using hv
end
end Go.Proofs.Ytclkokkppgchfaa
namespace Go.Proofs.Ytclkokkppgchfaa
open Go.ChangeShapes Go.WideShapes Go.ChangeAt Go.RowKit Go.Joins Go.Deep Go.Ng
section
variable {H : Type} {enc : TypeId × Value → H} {w : World} {base base0 : Nat} {spare : Nat → Bool} {held : Bool}
set_option maxRecDepth 100000 in
theorem open_ops_arg {v : Value} {d : DataW H} {p : List MemPlace} (hv : Value.okWide Try.prog w .any base0 23 v) (h : DataW.Trod enc Try.prog w base spare held 23 v d p) : ∃ l : List OpM,OpsRd tag0 w v l := by
  obtain ⟨a,len,cap,rfl⟩ := okWide_slice Try.underlying23 hv
  obtain ⟨n,hn⟩ := h
  refine open_ops hn (base0 := base0) ?_
  simpa only [Value.okWide,Try.underlying23] using hv
set_option maxRecDepth 100000 in
theorem open_int_arg {v : Value} {d : DataW H} {p : List MemPlace} (hv : Value.okWide Try.prog w .any base0 3 v) (h : DataW.Trod enc Try.prog w base spare held 3 v d p) : ∃ n : Int,v = .int .i64 n := by
  obtain ⟨n,h1,_⟩ := open_int Try.underlying3 hv h
  exact ⟨n,h1⟩
end
end Go.Proofs.Ytclkokkppgchfaa
