/- A part of the proof: texts of this session, joined. -/
import Derived.Test.YtclkokkppgchfaaNegoPlacesOwn15
import Derived.Test.YtclkokkppgchfaaPart9
import Derived.Test.YtclkokkppgchfaaPart6
import Derived.Test.YtclkokkppgchfaaPart10
import Derived.Test.YtclkokkppgchfaaShort
set_option linter.unusedSimpArgs false
set_option linter.unusedVariables false
set_option maxHeartbeats 6400000
set_option maxRecDepth 100000
namespace Go.Proofs.Ytclkokkppgchfaa
open Go.RowKit Go.Ng Go.Proofs.YtclkokkppgchfaaW.PrintLast
theorem Try.info140 : (Try.prog.info? 140).map (fun i => (i.zero,i.size,i.bytes)) = some (some (.agg #[.int .i64 0,.slice none 0 0,.int .i64 0,.int .i64 0]),4,48) := by kernel_rfl
section
variable {S : Tag → Prop} {tag tag' : Nat → Tag} {w w' : World} {k p R : Nat} {P P' : PlaceM}
theorem RPRep.add_prop {n : Int} {y : PropM} {x' : RPr} {av iv pv pv' : Value} {prs : List RPr} (h : RPRep tag k w p P) (hf : Fr S tag tag' w w') (hS : ∀ t,S t → t = (k,1,0) ∨ t = (k,4,0) ∨ t.1 ≠ k)
  (h1 : w.heap[p]? = some (.cells #[.int .i64 P.no,av,iv,pv] 125 (0,0))) (h1' : w'.heap[p]? = some (.cells #[.int .i64 P.no,av,iv,pv'] 125 (0,0))) (hl : prs.length = P.props.length) (h8 : ∀ (i : Nat) n y x,P.props[i]? = some (n,y) → prs[i]? = some x → RProp tag k w i n y x)
  (h7 : Row tag' (k,4,0) 140 4 w' pv' (prs.length + 1) ((prs ++ [x']).flatMap RPr.cells)) (hI : RProp tag' k w' prs.length n y x') : RPRep tag' k w' p { P with props := P.props ++ [(n,y)] } := by
 obtain ⟨av',iv',pv0,g1,g2,⟨its,g3,g4,g5⟩,_⟩ := h.cells
 obtain ⟨rfl,rfl,rfl⟩ : av' = av ∧ iv' = iv ∧ pv0 = pv := by have := g1.symm.trans h1; simpa using this
 have no : ∀ (r : Nat) (i : Int),r ≠ 1 → r ≠ 4 → ¬ S (k,r,i) := by
  intro r i n1 n4 hs
  rcases hS _ hs with e | e | e
  ·injection e with _ e; injection e with e _; exact n1 e
  ·injection e with _ e; injection e with e _; exact n4 e
  ·exact e rfl
 refine ⟨h.k0,(hf.tag_eq h1).trans h.ptr,av',iv',pv',h1',g2.fr hf (no _ _ (by decide) (by decide)),⟨its,g3,g4.fr hf (no _ _ (by decide) (by decide)),fun j it x a b => (g5 j it x a b).fr' hf (no _ _ (by decide) (by decide)) (no _ _ (by decide) (by decide))⟩,
  prs ++ [x'],by simp [hl],by rw [List.length_append]; exact h7,fun i1 n1 y1 x1 a b => ?_⟩
 by_cases e : i1 < prs.length
 ·have ha : P.props[i1]? = some (n1,y1) := by
   have a' : (P.props ++ [(n,y)])[i1]? = some (n1,y1) := a
   rw [List.getElem?_append_left (by omega)] at a'
   exact a'
  rw [List.getElem?_append_left e] at b
  have := h8 i1 n1 y1 x1 ha b
  exact ⟨this.no,this.st,this.got,this.cr.owned this.ct hf (no _ _ (by decide) (by decide)),this.ct.fr hf⟩
 ·have hi1 : i1 = prs.length := by
   have := (List.getElem?_eq_some_iff.1 b).1
   simp at this
   omega
  subst hi1
  have a' : (P.props ++ [(n,y)])[prs.length]? = some (n1,y1) := a
  rw [hl,List.getElem?_append_right (Nat.le_refl _)] at a'
  rw [List.getElem?_append_right (Nat.le_refl _)] at b
  simp at a' b
  obtain ⟨rfl,rfl⟩ := a'
  subst b
  exact hI
theorem idxR_of_none {l : List (Int × PropM)} {n : Int} (h : find l n = none) : idxR n l = -1 := by
 refine idxR_none (fun i hi x hx => ?_)
 unfold find at h
 rw [Option.map_eq_none_iff,List.find?_eq_none] at h
 simpa using h x (List.mem_of_getElem? hx)
theorem rfind_no (n : Int) (hi : idxR n P.props = -1) (h : RPRep tag k w p P) :
  Calls Try.prog 74 #[.pointer (some ⟨p,0,none⟩),.int .i64 n] w fun e w' => e = .returned (.int .i64 (-1)) ∧ w' = w := hi ▸ rfind_ok n h
theorem rright_val (l : List Clm) {v : Value} (r : Bool) (hr' : claimedB P.sites.length l = r) (h : RPRep tag k w p P) (hr : Rd 2 w v l.length (claims l)) (hok : TagOk tag w) :
  Calls Try.prog 73 #[.pointer (some ⟨p,0,none⟩),v] w fun e w' => e = .returned (.bool r) ∧ Fr (fun _ => False) tag tag w w' := hr' ▸ rright_ok l h hr hok
theorem rpropose_ok (n : Int) (l : List Clm) {v : Value} (h : RPRep tag k w p P) (hok : TagOk tag w) (hR : R ≠ 0) (hRk : R ≠ k) (hr : Rd 2 w v l.length (claims l))
  (hcl : claimedB P.sites.length l = true) (hn1 : 0 ≤ n) (hn2 : n ≤ 2147483647) (hf : find P.props n = none) (hlen : P.props.length < 4000) (ho : P.out = []) (hc : P.came = []) :
  Calls Try.prog 21 #[.pointer (some ⟨p,0,none⟩),.int .i64 n,v] w (RTook R k p tag w (proposeM P n l 0)) := by
 obtain ⟨j0,hj,hy0,hy1,hy2⟩ := info_parts Try.info69
 obtain ⟨j1,hj1,hx0,hx1,hx2⟩ := info_parts Try.info140
 obtain ⟨c0,hc0⟩ := claimed_head hcl
 have hck := claimed_of hcl
 obtain ⟨ci,cver⟩ := c0
 have hc1 := hck.item _ (List.mem_of_getElem? hc0)
 simp only at hc1
 obtain ⟨mm,rfl⟩ := Int.eq_ofNat_of_zero_le hc1.1
 have hmm : mm < P.sites.length := by omega
 have hll : 1 ≤ l.length ∧ l.length ≤ 64 := hck.len
 have hm : proposeM P n l 0 = ({ P with props := P.props ++ [(n,⟨0,l,1,0⟩)] } : PlaceM).send 1 (P.site (mm : Int)) n (mm : Int) cver := by
  cases l with
  | nil => simp at hc0
  | cons a l => simp at hc0; subst hc0; rfl
 obtain ⟨vb,voff,vcap,rfl,z1,z2,hvc⟩ := Rd.elem (enc := Clm.cells) hr (fun _ => rfl) (by decide) hc0
 unfold maxLen at z2
 have HMM := Lib.hid hm
 have HC0 := Lib.hid hc0
 have HCL := Lib.hid hcl
 have HR := Lib.hid hr
 have HIX := Lib.hid (idxR_of_none hf)
 have H := Lib.hid h
 have HO := Lib.hid ho
 have HC := Lib.hid hc
 have HML := Lib.hid hmm
 have hk0 := h.k0
 obtain ⟨hl1,hl2⟩ := hll
 clear hm hc0 hcl hr hf h ho hc hvc hck hc1 hmm
 go_enter Try.func21,Try.ntmps21
 go_upto_region 1 with fail
 obtain ⟨w1,hw1⟩ : ∃ x,x = w.alloc (.cells #[.slice none 0 0,.slice none 0 0] 41) := ⟨_,rfl⟩
 rw [← hw1]
 obtain ⟨b1,hb1⟩ : ∃ x,x = w.heap.size := ⟨_,rfl⟩
 rw [← hb1]
 have hwb : w.heap.size ≤ b1 := by omega
 have HF1 : Hid (Fr (fun _ => False) tag tag w w1) := Lib.hid (by rw [hw1]; exact (Fr.refl hok).al _)
 have HZ1 : Hid (w1.heap[b1]? = some (.cells #[.slice none 0 0,.slice none 0 0] 41 (0,0))) := Lib.hid (by rw [hw1,hb1]; exact heap_alloc_at _ _)
 have HTB : Hid ((tag b1).1 = 0) := Lib.hid (tag_new hok (by omega))
 have HP1 := Lib.hid (H.out.frF HF1.out)
 have HR1 := Lib.hid (HR.out.frF HF1.out)
 have hok1 := HF1.out.dom
 clear hw1 hb1
 go_upto_region 8 with (first
  | (go_at_call 73; refine (rright_val l true HCL.out HP1.out HR1.out hok1).mono ?_; rintro e w2 ⟨rfl,hF2⟩; have HF2 := Lib.hid (HF1.out.trans hF2); have HZ2 := Lib.hid (hF2.heap HZ1.out (fun x => x)); have HP2 := Lib.hid (HP1.out.frF hF2); have HR2 := Lib.hid (HR1.out.frF hF2); have hok2 := hF2.dom; clear hF2)
  | (go_at_call 74; refine (rfind_no n HIX.out HP2.out).mono ?_; rintro e w5 ⟨rfl,h5⟩; have h5 := h5.symm; subst h5))
 obtain ⟨av,iv,pv,g1,g2,g3,prs,g6,g7,g8⟩ := HP2.out.cells
 obtain ⟨PA,pcap,rfl,q1,q2⟩ := g7.form
 unfold maxLen at q2
 have c3 : w2.cell? ⟨p,3,none⟩ = some (.slice PA prs.length pcap) := cell_of g1 3
 have hpw := lt_of_heap g1
 have hlen2 : prs.length < 4000 := by omega
 have hlen3 : (prs.length : Int) < 4000 := by omega
 have G1 := Lib.hid g1
 have G6 := Lib.hid g6
 have G7 := Lib.hid g7
 have G8 := Lib.hid g8
 have hzl := lt_of_heap HZ2.out
 clear g1 g2 g3 g6 g7 g8
 go_upto_region 11 with fail
 obtain ⟨w3,hw3⟩ : ∃ x,x = w2.alloc (.cells #[.int .i64 n,.slice none 0 0,.int .i64 1,.int .i64 0] 140) := ⟨_,rfl⟩
 rw [← hw3]
 obtain ⟨b2,hb2⟩ : ∃ x,x = w2.heap.size := ⟨_,rfl⟩
 rw [← hb2]
 have hb12 : b1 < b2 := by omega
 have HF3 : Hid (Fr (fun _ => False) tag tag w w3) := Lib.hid (by rw [hw3]; exact HF2.out.al _)
 have HX3 : Hid (w3.heap[b2]? = some (.cells #[.int .i64 n,.slice none 0 0,.int .i64 1,.int .i64 0] 140 (0,0))) := Lib.hid (by rw [hw3,hb2]; exact heap_alloc_at _ _)
 have HZ3 : Hid (w3.heap[b1]? = some (.cells #[.slice none 0 0,.slice none 0 0] 41 (0,0))) := Lib.hid (by rw [hw3]; exact heap_alloc_lt HZ2.out _)
 have HTX : Hid ((tag b2).1 = 0) := Lib.hid (tag_new hok (by omega))
 have HA3 : Hid (Fr (fun _ => False) tag tag w2 w3) := Lib.hid (by rw [hw3]; exact Fr.alloc hok2 _)
 have HR3 := Lib.hid (HR2.out.frF HA3.out)
 have hok3 := HF3.out.dom
 clear hw3 hb2 c3 hzl
 have hnews : ∀ (j : Nat) u,(claims l)[j]? = some u → w3.cell? ((⟨vb,voff,none⟩ : Addr).add j) = some u := by
  intro j u hu
  rw [add_lit]
  rcases HR3.out.form with ⟨hv,_⟩ | ⟨vb',voff',vcap',hv,_,_,h4⟩
  ·cases hv
  ·injection hv with hv _ _
   injection hv with hv
   injection hv with hv hv2
   subst hv hv2
   exact h4 j u hu
 have HNEWS := Lib.hid hnews
 clear hnews
 have x1 : w3.cell? ⟨b2,1,none⟩ = some (.slice none 0 0) := cell_of HX3.out 1
 go_upto_region 12 with (
  at_builtin
  refine append_bare_list (k,5,(prs.length : Int)) rfl (.tmp 42) (.tmp 43) 34 rfl (by rfl) (by rfl) hok3 Try.underlying34 hj hy0 hy1 hy2 rfl (by decide) (claims l) (claims_len l) HNEWS.out (claims_one l) (by omega) (by unfold maxLen; omega) (by omega) ?_
  intro g5 cap5 w4 tag4 hrow hfr hg5
  have HX4 := Lib.hid (hfr.heap HX3.out (fun x => x))
  have v1 : w4.cell? ⟨b2,1,none⟩ = some (.slice none 0 0) := cell_of HX4.out 1
  have vz1 := free_of HX4.out 1
  have HFR4 := Lib.hid hfr
  have HROW4 := Lib.hid hrow
  clear hrow hfr hg5)
 obtain ⟨w5,hw5⟩ : ∃ x,x = w4.setCell ⟨b2,1,none⟩ (.slice (some ⟨g5,0,none⟩) l.length cap5) := ⟨_,rfl⟩
 rw [← hw5]
 have HTB4 : Hid ((tag4 b1).1 = 0 ∧ (tag4 b2).1 = 0) := Lib.hid ⟨by rw [HFR4.out.same b1 (lt_of_heap HZ3.out)]; exact HTB.out,by rw [HFR4.out.same b2 (lt_of_heap HX3.out)]; exact HTX.out⟩
 have HF5 : Hid (Fr (fun _ => False) tag tag4 w w5) := Lib.hid (by rw [hw5]; exact (HF3.out.trans HFR4.out).scn (by omega) _ _)
 have HL5 : Hid (Fr (fun t => t.1 = 0) tag4 tag4 w4 w5) := Lib.hid (by rw [hw5]; exact Fr.setCell HFR4.out.dom (a := ⟨b2,1,none⟩) HTB4.out.2 _)
 have HX5 : Hid (w5.heap[b2]? = some (.cells #[.int .i64 n,.slice (some ⟨g5,0,none⟩) l.length cap5,.int .i64 1,.int .i64 0] 140 (0,0))) := Lib.hid (by rw [hw5,Go.Ng.heap_setCell_same HX4.out 1 _]; rfl)
 have HZ5 : Hid (w5.heap[b1]? = some (.cells #[.slice none 0 0,.slice none 0 0] 41 (0,0))) := Lib.hid (by rw [hw5]; exact (Go.Ng.heap_setCell_ne (by omega) _ _).trans (HFR4.out.heap HZ3.out (fun x => x)))
 have HM5 : Hid (Fr (fun t => t.1 = 0) tag tag4 w2 w5) := Lib.hid ((HA3.out.up.trans HFR4.out.up).trans HL5.out)
 have HCR5 := Lib.hid (HROW4.out.fr HL5.out hk0)
 have hok5 := HF5.out.dom
 have HP5 := Lib.hid (HP2.out.fr HM5.out (fun r i => hk0))
 have HG1 := Lib.hid (HM5.out.heap G1.out (by rw [HP2.out.ptr]; exact hk0))
 have HG7 := Lib.hid (G7.out.fr HM5.out hk0)
 have HPT5 := Lib.hid HP5.out.ptr
 clear hw5 x1 v1 vz1
 have c3 : w5.cell? ⟨p,3,none⟩ = some (.slice PA prs.length pcap) := cell_of HG1.out 3
 have x0 : w5.cell? ⟨b2,0,none⟩ = some (.int .i64 n) := cell_of HX5.out 0
 have x1 : w5.cell? ⟨b2,1,none⟩ = some (.slice (some ⟨g5,0,none⟩) l.length cap5) := cell_of HX5.out 1
 have x2 : w5.cell? ⟨b2,2,none⟩ = some (.int .i64 1) := cell_of HX5.out 2
 have x3 : w5.cell? ⟨b2,3,none⟩ = some (.int .i64 0) := cell_of HX5.out 3
 refine start_ (n:=11) (S:=fun w' => w'.cell? ⟨p,3,none⟩ = some (.slice PA prs.length pcap) ∧ w'.cell? ⟨b2,0,none⟩ = some (.int .i64 n) ∧ w'.cell? ⟨b2,1,none⟩ = some (.slice (some ⟨g5,0,none⟩) l.length cap5) ∧ w'.cell? ⟨b2,2,none⟩ = some (.int .i64 1) ∧ w'.cell? ⟨b2,3,none⟩ = some (.int .i64 0)) (ds := [10]) #[f_,f_,f_,f_,f_,f_,f_,f_,f_,f_,f_] (by kernel_rfl) rfl rfl ⟨c3,x0,x1,x2,x3⟩ (fun hHeld => ?_)
 refine pv_ (i:=0) (N:=some 46) (v:=?_) (a':=?_) rfl rfl (by kernel_rfl) (fun _ _ _ h => h) (Or.inl ⟨by rfl,?_⟩) ?_ ?_
 rotate_left;intro w';go_simp;with_reducible rfl;rotate_left;simp only [Act.put,sA_,sB_,sC_,i64_w,i32_w];rfl
 refine pv_ (i:=1) (N:=some 47) (v:=?_) (a':=?_) rfl rfl (by kernel_rfl) (fun _ _ _ h => h) (Or.inl ⟨by rfl,?_⟩) ?_ ?_
 rotate_left;intro w';go_simp;with_reducible rfl;rotate_left;simp only [Act.put,sA_,sB_,sC_,i64_w,i32_w];rfl
 refine pv_ (i:=2) (N:=some 48) (v:=?_) (a':=?_) rfl rfl (by kernel_rfl) (fun _ _ _ h => h) (Or.inl ⟨by rfl,?_⟩) ?_ ?_
 rotate_left;intro w';go_simp;with_reducible rfl;rotate_left;simp only [Act.put,sA_,sB_,sC_,i64_w,i32_w];rfl
 refine pv_ (i:=3) (N:=some 49) (v:=?_) (a':=?_) rfl rfl (by kernel_rfl) (fun _ _ _ h => h) (Or.inl ⟨by rfl,?_⟩) ?_ ?_
 rotate_left;intro w';go_simp;with_reducible rfl;rotate_left;simp only [Act.put,sA_,sB_,sC_,i64_w,i32_w];rfl
 refine tv_ (i:=4) (N:=some 50) (v:=?_) (a':=?_) rfl rfl (by kernel_rfl) (fun _ _ _ h => h) (Or.inl ⟨by rfl,?_⟩) hHeld ?_ ?_
 rotate_left;rintro w' ⟨s0,s1,s2,s3,s4⟩;go_simp;with_reducible rfl;rotate_left;simp only [Act.put,sA_,sB_,sC_,i64_w,i32_w];rfl
 refine tv_ (i:=5) (N:=some 51) (v:=?_) (a':=?_) rfl rfl (by kernel_rfl) (fun _ _ _ h => h) (Or.inl ⟨by rfl,?_⟩) hHeld ?_ ?_
 rotate_left;rintro w' ⟨s0,s1,s2,s3,s4⟩;go_simp;with_reducible rfl;rotate_left;simp only [Act.put,sA_,sB_,sC_,i64_w,i32_w];rfl
 refine one_ (i:=6) (N:=some 52) #[t_,t_,t_,t_,t_,t_,t_,f_,f_,f_,f_] rfl rfl (by kernel_rfl) (by decide) (fun K hK => ?_)
 refine value_ (w1:=?_) (v:=?_) (by rfl) rfl ?_ ?_
 rotate_left 2
 ·go_simp
  constructor
  ·rfl
  ·rfl
 refine hK.out _ _ ⟨(ca hHeld.1 _),(ca hHeld.2.1 _),(ca hHeld.2.2.1 _),(ca hHeld.2.2.2.1 _),(ca hHeld.2.2.2.2 _)⟩ (fun hHeld => ?_)
 clear hK K
 refine norm_ (a':=?_) ?_ ?_
 rotate_left
 ·show Act.put _ (some 52) _ = _
  simp only [Act.put,sA_,sB_,sC_,i64_w,i32_w]
  rfl
 refine one_ (i:=7) (N:=some 53) #[t_,t_,t_,t_,t_,t_,t_,t_,f_,f_,f_] rfl rfl (by kernel_rfl) (by decide) (fun K hK => ?_)
 refine append_arm (by rfl) rfl (.tmp 50) (.tmp 52) 123 rfl (by rfl) (by rfl) ((HG7.out.alloc _).drew) ((hok5.alloc _).drew) Try.underlying123 hj1 hx0 hx1 hx2 rfl (by decide) [.int .i64 n,.slice (some ⟨g5,0,none⟩) l.length cap5,.int .i64 1,.int .i64 0] rfl (news_at (heap_alloc_at _ _)) (by simp [Value.oneCell']) (by decide) (by unfold maxLen; omega) (by omega) ?_
 intro g7 cap7 w7 tag7 hrow hfr
 have hz7 : ∀ x y,tag4 x ≠ (k,4,0) → w5.heap[x]? = some y → w7.heap[x]? = some y := fun x y ht hy => hfr.heap (heap_alloc_lt hy _) ht
 have HX7 := Lib.hid (hz7 _ _ (t0_ne HTB4.out.2 hk0) HX5.out)
 have HZ7 := Lib.hid (hz7 _ _ (t0_ne HTB4.out.1 hk0) HZ5.out)
 have HG17 := Lib.hid (hz7 _ _ (by rw [HPT5.out]; simp) HG1.out)
 have d3 : w7.cell? ⟨p,3,none⟩ = some (.slice PA prs.length pcap) := cell_of HG17.out 3
 have dz3 := free_of HG17.out 3
 have HFR7 := Lib.hid hfr
 have HROW7 := Lib.hid hrow
 clear hrow hfr hz7
 refine hK.out _ _ ⟨d3,(cell_of HX7.out 0),(cell_of HX7.out 1),(cell_of HX7.out 2),(cell_of HX7.out 3)⟩ (fun hHeld => ?_)
 clear hK K
 refine norm_ (a':=?_) ?_ ?_
 rotate_left
 ·show Act.put _ (some 53) _ = _
  simp only [Act.put,sA_,sB_,sC_,i64_w,i32_w]
  rfl
 refine pv_ (i:=8) (N:=some 54) (v:=?_) (a':=?_) rfl rfl (by kernel_rfl) (fun _ _ _ h => h) (Or.inl ⟨by rfl,?_⟩) ?_ ?_
 rotate_left;intro w';go_simp;with_reducible rfl;rotate_left;simp only [Act.put,sA_,sB_,sC_,i64_w,i32_w];rfl
 refine pv_ (i:=9) (N:=some 55) (v:=?_) (a':=?_) rfl rfl (by kernel_rfl) (fun _ _ _ h => h) (Or.inl ⟨by rfl,?_⟩) ?_ ?_
 rotate_left;intro w';go_simp;with_reducible rfl;rotate_left;simp only [Act.put,sA_,sB_,sC_,i64_w,i32_w];rfl
 refine last_ (i:=10) (N:=none) #[t_,t_,t_,t_,t_,t_,t_,t_,t_,t_,t_] rfl rfl (by kernel_rfl) (by decide) (fun K hK => ?_)
 refine skip_ (w1:=?_) (by rfl) rfl ?_ ?_
 rotate_left
 ·go_simp
  rfl
 refine hK.out _ _ ?_
 clear hK K
 refine done_ (by kernel_rfl) ?_
 clear hHeld c3 x0 x1 x2 x3
 go_upto_region 13 with fail
 obtain ⟨w8,hw8⟩ : ∃ x,x = w7.setCell ⟨p,3,none⟩ (.slice (some ⟨g7,0,none⟩) (prs.length + 1) cap7) := ⟨_,rfl⟩
 rw [← hw8]
 have htp : tag7 p = (k,1,0) := (HFR7.out.same p (lt_of_heap (heap_alloc_lt HG1.out _))).trans HPT5.out
 have hs8 : Fr (fun t => t = (k,1,0)) tag7 tag7 w7 w8 := by rw [hw8]; exact Fr.setCell HFR7.out.dom (a := ⟨p,3,none⟩) htp _
 have hf8 : Fr (fun t => t = (k,1,0) ∨ t = (k,4,0)) tag4 tag7 w5 w8 := (((Fr.refl hok5).al _).dr.trans (HFR7.out.mono (fun _ h => .inr h))).trans (hs8.mono (fun _ h => .inl h))
 have hg8 : w8.heap[p]? = some (.cells #[.int .i64 P.no,av,iv,.slice (some ⟨g7,0,none⟩) (prs.length + 1) cap7] 125 (0,0)) := by rw [hw8,Go.Ng.heap_setCell_same HG17.out 3 _]; rfl
 have hrow8 : Row tag7 (k,4,0) 140 4 w8 (.slice (some ⟨g7,0,none⟩) (prs.length + 1) cap7) (prs.length + 1) ((prs ++ [(⟨n,.slice (some ⟨g5,0,none⟩) l.length cap5,1,0⟩ : RPr)]).flatMap RPr.cells) := by
  rw [List.flatMap_append]
  exact HROW7.out.fr hs8 (by simp)
 have hP8 : RPRep tag7 k w8 p { P with props := P.props ++ [(n,⟨0,l,1,0⟩)] } := by
  refine HP5.out.add_prop hf8 (fun t h => by rcases h with h | h <;> first | exact .inl h | exact .inr (.inl h)) HG1.out hg8 G6.out (fun i n y x a b => (G8.out i n y x a b).fr HM5.out (fun r i => hk0)) hrow8 ⟨rfl,rfl,rfl,?_,?_⟩
  ·exact (HCR5.out.fr hf8 (by simp)).rd (claims_one l)
  ·exact Row.owned (HCR5.out.fr hf8 (by simp)) (by omega) (by decide)
 have HP8 := Lib.hid hP8
 have HF8 : Hid (Fr (fun t => t.1 = k) tag tag7 w w8) := Lib.hid (HF5.out.up.trans (hf8.mono (fun t h => by rcases h with h | h <;> rw [h])))
 have HZ8 : Hid (w8.heap[b1]? = some (.cells #[.slice none 0 0,.slice none 0 0] 41 (0,0))) := Lib.hid (by rw [hw8]; exact (Go.Ng.heap_setCell_ne (fun e => by have := HTB4.out.1; rw [e,HPT5.out] at this; exact hk0 this) _ _).trans HZ7.out)
 have HTB8 : Hid ((tag7 b1).1 = 0) := Lib.hid (by rw [HFR7.out.same b1 (lt_of_heap (heap_alloc_lt HZ5.out _))]; exact HTB4.out.1)
 have HI8 : Hid (({ P with props := P.props ++ [(n,⟨0,l,1,0⟩)] } : PlaceM).props[prs.length]? = some (n,⟨0,l,1,0⟩)) := Lib.hid (by show (P.props ++ [_])[prs.length]? = _; rw [G6.out]; simp)
 have hok8 := HF8.out.dom
 have c3 : w8.cell? ⟨p,3,none⟩ = some (.slice (some ⟨g7,0,none⟩) (prs.length + 1) cap7) := cell_of hg8 3
 clear hw8 htp hs8 hf8 hg8 hrow8 hP8 d3 dz3
 go_wp2_with (
  go_at_call 75
  refine (rask_ok (i:=prs.length) (n:=n) (y := ⟨0,l,1,0⟩) (m := mm) (cver := cver) (R,1,0) HP8.out hok8 HI8.out HC0.out HML.out).mono ?_
  rintro e w9 ⟨ov,tag9,rfl,hrow,hF9⟩
  obtain ⟨OA,ocap,rfl,o1,o2⟩ := hrow.form
  have hZ9 := hF9.heap HZ8.out (fun x => x)
  have r0 : w9.cell? ⟨b1,0,none⟩ = some (.slice none 0 0) := cell_of hZ9 0
  have r1 : w9.cell? ⟨b1,1,none⟩ = some (.slice none 0 0) := cell_of hZ9 1
  have rz0 := free_of hZ9 0
  have rz1 := free_of hZ9 1
  have HZ9 := Lib.hid hZ9
  have HF9 := Lib.hid hF9
  have HROW := Lib.hid hrow
  clear hZ9 hF9 hrow)
 obtain ⟨wz,hwz⟩ : ∃ x,x = (w9.setCell ⟨b1,0,none⟩ (.slice OA 1 ocap)).setCell ⟨b1,1,none⟩ (.slice none 0 0) := ⟨_,rfl⟩
 rw [← hwz]
 have hzz : wz.heap[b1]? = some (.cells #[.slice OA 1 ocap,.slice none 0 0] 41 (0,0)) := by
  rw [hwz,Go.Ng.heap_setCell_same (Go.Ng.heap_setCell_same HZ9.out 0 _) 1 _]
  rfl
 have rr0 : wz.cell? ⟨b1,0,none⟩ = some (.slice OA 1 ocap) := cell_of hzz 0
 have rr1 : wz.cell? ⟨b1,1,none⟩ = some (.slice none 0 0) := cell_of hzz 1
 refine bodyPost_ret (v:=.tuple #[.agg #[.slice OA 1 ocap,.slice none 0 0],.int .i64 0]) (by simp [results,Try.results21,go_sem,rr0,rr1]) rfl ?_
 rw [HMM.out]
 have htz : (tag9 b1).1 = 0 := by rw [HF9.out.same b1 (lt_of_heap HZ8.out)]; exact HTB8.out
 have hLz : Fr (fun t => t.1 = 0) tag9 tag9 w9 wz := by rw [hwz]; exact ((Fr.refl HF9.out.dom).sc b1 _ _ htz).sc b1 _ _ htz
 refine ⟨_,_,tag9,rfl,?_,?_,(((HP8.out.frF HF9.out).fr hLz (fun r i => hk0)).congr rfl rfl rfl rfl),by rw [hwz]; exact ((((HF8.out.trans HF9.out.up).scn (by omega) _ _).scn (by omega) _ _).mono (fun t h => .inl h))⟩
 ·show Row _ _ _ _ _ _ (P.out ++ [_]).length (posts (P.out ++ [_]))
  rw [HO.out]
  exact HROW.out.fr hLz hR
 ·show Row _ _ _ _ _ _ P.came.length (cames P.came)
  rw [HC.out]
  exact Row.nil _ _ _ _ _
theorem rdrop_ok {x : PropM} {n : Int} (h : RPRep tag k w p P) (hok : TagOk tag w) (hR : R ≠ 0) (hRk : R ≠ k) (hW : WF P) (hnd : (P.props.map (·.1)).Nodup) (hf : find P.props n = some x) (hst : x.state = 1) (ho : P.out = []) :
  Calls Try.prog 24 #[.pointer (some ⟨p,0,none⟩),.int .i64 n] w fun e w' => ∃ ov tag',e = .returned (.tuple #[ov,.int .i64 0]) ∧ Row tag' (R,1,0) 49 6 w' ov (dropM P n x).out.length (posts (dropM P n x).out) ∧ RPRep tag' k w' p (dropM P n x) ∧ Fr (fun t => t.1 = k ∨ t.1 = R) tag tag' w w' := by
 obtain ⟨i,hi,hix⟩ := find_idx hf
 have hxm : (n,x) ∈ P.props := List.mem_of_getElem? hi
 have hglt := hW.opens _ _ hxm hst
 have hfew := hW.few _ _ hxm
 have hcls := hW.claims _ _ hxm
 obtain ⟨c,hc⟩ : ∃ c,x.claims[x.granted]? = some c := ⟨_,List.getElem?_eq_getElem hglt⟩
 have HMM := Lib.hid (dropM_eq (P := P) (n:=n) hc)
 have HU := Lib.hid (nodup_idx hnd hi)
 have HI := Lib.hid hi
 have HIX := Lib.hid hix
 have HCLS := Lib.hid hcls
 have H := Lib.hid h
 have HO := Lib.hid ho
 have hk0 := h.k0
 have hrp := h.cells
 obtain ⟨av,iv,pv,g1,g2,g3,prs,g6,g7,g8⟩ := hrp
 obtain ⟨PA,pcap,rfl,q1,q2⟩ := g7.form
 unfold maxLen at q2
 have hil : i < prs.length := by have := (List.getElem?_eq_some_iff.1 HI.out).1; omega
 obtain ⟨⟨xn,xc,xs,xg⟩,hx⟩ : ∃ c,prs[i]? = some c := ⟨_,List.getElem?_eq_getElem hil⟩
 have hr := g8 i n x _ HI.out hx
 obtain ⟨r1,r2,r3,r4,r5⟩ := hr
 simp only at r1 r2 r3 r4 r5
 replace r1 := r1.symm
 subst r1 r2 r3
 obtain ⟨pb,hpv,hpt,hps,hce⟩ := Row.elem (enc := RPr.cells) g7 (fun _ => rfl) (by decide) hx
 subst hpv
 obtain ⟨CA,ccap,rfl,z1,z2⟩ := r4.slice
 unfold maxLen at z2
 have c3 : w.cell? ⟨p,3,none⟩ = some (.slice (some ⟨pb,0,none⟩) prs.length pcap) := cell_of g1 3
 have e2 : w.cell? ⟨pb,i * 4 + 2,none⟩ = some (.int .i64 x.state) := hce 2 _ rfl
 have ez2 : w.frozen? ⟨pb,i * 4 + 2,none⟩ = false := Row.free' g7 (by rw [rprs_len]; omega)
 rw [hst] at e2
 have i1 : (0 : Int) ≤ (i : Int) := by omega
 have i2 : (i : Int) < (prs.length : Int) := by omega
 have i3 : (0 : Int) ≤ (x.granted : Int) := by omega
 have i4 : (x.granted : Int) ≤ 64 := by omega
 have hpp : p ≠ pb := ne_of_tag h.ptr hpt (by simp)
 have G1 := Lib.hid g1
 have G6 := Lib.hid g6
 have G7 := Lib.hid g7
 have G8 := Lib.hid g8
 have HX := Lib.hid hx
 have R4 := Lib.hid r4
 have R5 := Lib.hid r5
 have HPB := Lib.hid hpt
 have HRk := Lib.hid hRk
 have HST := Lib.hid hst
 clear h hi hix hcls hf hxm hnd ho hW g1 g2 g3 g6 g7 g8 hx r4 r5 hce hpt hps hc hRk hst
 go_enter Try.func24,Try.ntmps24
 go_upto_region 9 with (go_at_call 74; refine (rfind_val n i HIX.out H.out).mono ?_; rintro e w5 ⟨rfl,h5⟩; have h5 := h5.symm; subst h5)
 obtain ⟨w3,hW⟩ : ∃ yy,yy = w.setCell ⟨pb,i * 4 + 2,none⟩ (.int .i64 4) := ⟨_,rfl⟩
 rw [← hW]
 have hG : Fr (fun t => t = (k,4,0)) tag tag w w3 := by rw [hW]; exact Fr.setCell hok (a := ⟨pb,_,none⟩) HPB.out _
 have hrow : Row tag (k,4,0) 140 4 w3 (.slice (some ⟨pb,0,none⟩) prs.length pcap) prs.length ((prs.set i ⟨n,.slice CA x.claims.length ccap,4,(x.granted : Int)⟩).flatMap RPr.cells) := by
  have := rprs_set2 prs i _ 4 HX.out
  rw [hW,← this]
  exact G7.out.put_cell (by rw [rprs_len]; omega) _
 have hP : RPRep tag k w3 p (setProp P n { x with state := 4 }) := H.out.set_prop HI.out HU.out hG (fun t h => .inl h) G1.out G6.out G8.out hrow (y' := { x with state := 4 }) ⟨rfl,rfl,rfl,R4.out.owned R5.out hG (by simp),R5.out.fr hG⟩
 have HP3 := Lib.hid hP
 have hok3 := hG.dom
 have HF3 := Lib.hid hG
 have hg3 := hG.heap G1.out (by rw [H.out.ptr]; simp)
 have HRL := Lib.hid hrow
 have hxs : (prs.set i (⟨n,.slice CA x.claims.length ccap,4,(x.granted : Int)⟩ : RPr))[i]? = some ⟨n,.slice CA x.claims.length ccap,4,(x.granted : Int)⟩ := by simp [hil]
 obtain ⟨pb',hpv',_,_,hce'⟩ := Row.elem (n:=prs.length) (enc := RPr.cells) hrow (fun _ => rfl) (by decide) hxs
 have hpe : pb' = pb := by
  injection hpv' with e
  injection e with e
  exact e.symm
 rw [hpe] at hce'
 have d3 : w3.cell? ⟨p,3,none⟩ = some (.slice (some ⟨pb,0,none⟩) prs.length pcap) := cell_of hg3 3
 have k3 : w3.cell? ⟨pb,i * 4 + 3,none⟩ = some (.int .i64 (x.granted : Int)) := hce' 3 _ rfl
 have HI4 : Hid ((setProp P n { x with state := 4 }).props[i]? = some (n,{ x with state := 4 })) := Lib.hid (upd_get HI.out)
 have HLE : Hid (x.granted + 1 ≤ ({ x with state := 4 } : PropM).claims.length) := Lib.hid hglt
 have HCL : Hid (({ x with state := 4 } : PropM).claims.length ≤ 1000) := Lib.hid (by show x.claims.length ≤ 1000; omega)
 have HCLS4 : Hid (∀ c ∈ ({ x with state := 4 } : PropM).claims,∃ m : Nat,c.item = (m : Int) ∧ m < (setProp P n { x with state := 4 }).sites.length) := Lib.hid HCLS.out
 clear hW hG hrow hP hg3 hxs hce' c3 e2 ez2
 go_wp2_with (
  go_at_call 78
  refine (reach_ok (i:=i) (nn := x.granted + 1) (n:=n) (y := { x with state := 4 }) (P := setProp P n { x with state := 4 }) 5 (R,1,0) hR HRk.out HP3.out hok3 HI4.out HLE.out HCLS4.out HCL.out).mono ?_
  rintro e w4 ⟨ov,tag4,rfl,hrow,hF4⟩
  have HF4 := Lib.hid hF4
  have HROW := Lib.hid hrow
  clear hF4 hrow)
 go_ret2
 rw [HMM.out]
 have e2 : eachL (setProp P n { x with state := 4 }) 5 n (({ x with state := 4 } : PropM).claims.take (x.granted + 1)) = (x.claims.take (x.granted + 1)).map (fun c => ⟨5,P.no,P.site c.item,n,c.item,0⟩) := rfl
 have hrow := HROW.out
 rw [e2] at hrow
 refine ⟨_,tag4,rfl,?_,(HP3.out.fr HF4.out (fun r i e => by injection e with e _; exact HRk.out e.symm)).congr rfl rfl rfl rfl,(HF3.out.mono (fun t h => .inl (by rw [h]))).trans (HF4.out.mono (fun t h => .inr (by rw [h])))⟩
 show Row _ _ _ _ _ _ (P.out ++ _).length (posts (P.out ++ _))
 rw [HO.out,List.nil_append,List.length_map,List.length_take,Nat.min_eq_left hglt]
 exact hrow
end
end Go.Proofs.Ytclkokkppgchfaa
namespace Go.Ng
open Go Go.RowKit
section
variable {P : Program} {ops : Array Oper} {Q : Exit → Act → World → Prop} {tag : Nat → Tag} {E sz : Nat} {w : World}
end
end Go.Ng
namespace Go.Proofs.Ytclkokkppgchfaa
open Go.RowKit Go.Ng Go.Proofs.YtclkokkppgchfaaW.PrintLast
def renum (tag : Nat → Tag) (K k : Nat) : Nat → Tag := fun b => if (tag b).1 = K then (k,(tag b).2) else tag b
section
variable {S : Tag → Prop} {tag tag' : Nat → Tag} {w w' : World} {K k : Nat}
theorem renum_at {b : Nat} {x : Nat × Int} (h : tag b = (K,x)) : renum tag K k b = (k,x) := by rw [renum,h,if_pos rfl]
theorem renum_ne {b : Nat} (h : (tag b).1 ≠ K) : renum tag K k b = tag b := if_neg h
theorem _root_.Go.Ng.Fr.renum (hF : Fr S tag tag' w w') (hK : K ≠ 0) (hno : ∀ b,b < w.heap.size → (tag b).1 ≠ K) : Fr S tag (renum tag' K k) w w' :=
 ⟨hF.os,hF.tape,hF.output,hF.size,fun b hb => by
  have h1 := hF.same b hb
  rw [renum_ne (by rw [h1]; exact hno b hb),h1],hF.block,fun b hb => by
  by_cases e : (tag' b).1 = K
  ·exact hF.dom b (by rw [e]; exact hK)
  ·rw [renum_ne e] at hb; exact hF.dom b hb⟩
theorem _root_.Go.Ng.Fr.dropN (hF : Fr (fun t => S t ∨ t.1 = K) tag tag' w w') (hno : ∀ b,b < w.heap.size → (tag b).1 ≠ K) : Fr S tag tag' w w' :=
 ⟨hF.os,hF.tape,hF.output,hF.size,hF.same,fun b hb hs => hF.block b hb (fun h => h.elim hs (hno b hb)),hF.dom⟩
theorem _root_.Go.Ng.Row.renum {E sz n : Nat} {v : Value} {ks : List Value} {x : Nat × Int} (h : Row tag (K,x) E sz w v n ks) (k : Nat) : Row (renum tag K k) (k,x) E sz w v n ks := by
 rcases h with ⟨h,ht⟩ | h
 ·exact .inl ⟨h,fun b hb => renum_at (ht b hb)⟩
 ·exact .inr h
theorem _root_.Go.Ng.Row.renum_ne {E sz n : Nat} {v : Value} {ks : List Value} {t : Tag} (h : Row tag t E sz w v n ks) (k : Nat) (ht : t.1 ≠ K) : Row (renum tag K k) t E sz w v n ks :=
 h.keep fun b hb hbt => ⟨by rw [Ytclkokkppgchfaa.renum_ne (by rw [hbt]; exact ht),hbt],rfl⟩
theorem _root_.Go.Ng.ORow.renum {sz n : Nat} {v : Value} {ks : List Value} {x : Nat × Int} (h : ORow tag (K,x) sz w v n ks) (k : Nat) : ORow (renum tag K k) (k,x) sz w v n ks := by
 refine ⟨h.len,h.one,?_⟩
 rcases h.form with h1 | ⟨b,off,cap,h1,h2,h3⟩
 ·exact .inl h1
 ·exact .inr ⟨b,off,cap,h1,renum_at h2,h3⟩
theorem Owned.renum_ne {v : Value} {t : Tag} (h : Owned tag w t v) (k : Nat) (ht : t.1 ≠ K) : Owned (renum tag K k) w t v := fun b off m cap hv => by
 obtain ⟨h1,h2⟩ := h b off m cap hv
 exact ⟨by rw [Ytclkokkppgchfaa.renum_ne (by rw [h1]; exact ht),h1],h2⟩
theorem RItemO.renum {j : Nat} {o : Option ItemM} {x : RIt} (h : RItemO tag K w j o x) (k : Nat) : RItemO (renum tag K k) k w j o x := by
 cases o with
 | none => exact h
 | some it =>
  have h : RItem tag K w j it x := h
  exact ⟨h.ver,h.hold,h.wr.renum k,h.thr.renum k⟩
end
structure CopyS (tag : Nat → Tag) (w : World) (K : Nat) (P : PlaceM) (av : Value) (b : Nat) (n : Nat) (tagr : Nat → Tag) (iv2 : Value) (wr : World) : Prop where
 hp : wr.heap[b]? = some (.cells #[.int .i64 P.no,av,iv2,.slice none 0 0] 125 (0,0))
 tb : tagr b = (K,1,0)
 its : ∃ its2 : List RIt,its2.length = n ∧ Row tagr (K,3,0) 128 4 wr iv2 n (its2.flatMap RIt.cells) ∧ ∀ (j : Nat) o x,P.items[j]? = some o → its2[j]? = some x → RItemO tagr K wr j o x
 fr : Fr (fun t => t.1 = K) tag tagr w wr
section
variable {S : Tag → Prop} {tag tag' : Nat → Tag} {w w' : World} {k p R : Nat} {P P' : PlaceM}
end
def rptr (p : Nat) : Value := .pointer (some ⟨p,0,none⟩)
structure RNRep (tag : Nat → Tag) (B : Nat) (w : World) (q : Nat) (N : NetM) : Prop where
 b0 : B ≠ 0
 tptr : tag q = (B,1,0)
 cells : ∃ pv fv cv hv yv dv,w.heap[q]? = some (.cells #[pv,fv,cv,hv,yv,dv] 157 (0,0)) ∧
  (∃ ps : List Nat,ps.length = N.places.length ∧ Row tag (B,2,0) 31 1 w pv N.places.length (ps.map rptr) ∧ ∀ (i p : Nat) P,ps[i]? = some p → N.places[i]? = some P → RPRep tag (B + 1 + i) w p P) ∧
  Row tag (B,4,0) 49 6 w fv N.flight.length (posts N.flight) ∧
  (∃ cvs : List Value,Row tag (B,5,0) 34 1 w cv N.claims.length cvs ∧ ∀ (i : Nat) (l : List Clm),N.claims[i]? = some l → ∃ v,cvs[i]? = some v ∧ Row tag (B,6,(i : Int)) 69 2 w v l.length (Ytclkokkppgchfaa.claims l)) ∧
  Row tag (B,7,0) 3 1 w hv N.homes.length (ints N.homes) ∧
  (∃ yvs : List Value,Row tag (B,8,0) 22 1 w yv N.history.length yvs ∧ ∀ (i : Nat) (l : List Int),N.history[i]? = some l → ∃ v,yvs[i]? = some v ∧ Row tag (B,9,(i : Int)) 3 1 w v l.length (ints l)) ∧
  Row tag (B,10,0) 3 1 w dv N.decided.length (ints N.decided)
section
variable {S : Tag → Prop} {tag tag' : Nat → Tag} {w w' : World} {B q : Nat} {N : NetM}
theorem RNRep.fr (h : RNRep tag B w q N) (hf : Fr S tag tag' w w') (hS : ∀ i r j,i ≤ N.places.length → ¬ S (B + i,r,j)) : RNRep tag' B w' q N := by
 obtain ⟨pv,fv,cv,hv,yv,dv,hc,⟨ps,p1,p2,p3⟩,h4,⟨cvs,h5,h6⟩,h7,⟨yvs,h8,h9⟩,h10⟩ := h.cells
 have no : ∀ r j,¬ S (B,r,j) := fun r j => hS 0 r j (Nat.zero_le _)
 refine ⟨h.b0,(hf.tag_eq hc).trans h.tptr,pv,fv,cv,hv,yv,dv,hf.heap hc (by rw [h.tptr]; exact no _ _),⟨ps,p1,p2.fr hf (no _ _),fun i p P a b => ?_⟩,h4.fr hf (no _ _),⟨cvs,h5.fr hf (no _ _),fun i l hl => ?_⟩,h7.fr hf (no _ _),⟨yvs,h8.fr hf (no _ _),fun i l hl => ?_⟩,h10.fr hf (no _ _)⟩
 ·have hl := (List.getElem?_eq_some_iff.1 b).1
  refine (p3 i p P a b).fr hf (fun r j => ?_)
  have := hS (1 + i) r j (by omega)
  rwa [← Nat.add_assoc] at this
 ·obtain ⟨v,hv,hr⟩ := h6 i l hl
  exact ⟨v,hv,hr.fr hf (no _ _)⟩
 ·obtain ⟨v,hv,hr⟩ := h9 i l hl
  exact ⟨v,hv,hr.fr hf (no _ _)⟩
theorem RNRep.frF (h : RNRep tag B w q N) (hf : Fr (fun _ => False) tag tag' w w') : RNRep tag' B w' q N := h.fr hf (fun _ _ _ _ x => x)
theorem RNRep.set_flight (h : RNRep tag B w q N) (hf : Fr S tag tag' w w') (hS : ∀ t,S t → t = (B,1,0) ∨ t = (B,4,0) ∨ B + 32 < t.1) (h32 : N.places.length ≤ 32) (l : List Post)
  (hc : ∀ pv fv cv hv yv dv,w.heap[q]? = some (.cells #[pv,fv,cv,hv,yv,dv] 157 (0,0)) → ∃ fv',w'.heap[q]? = some (.cells #[pv,fv',cv,hv,yv,dv] 157 (0,0)) ∧ Row tag' (B,4,0) 49 6 w' fv' l.length (posts l)) :
  RNRep tag' B w' q { N with flight := l } := by
 obtain ⟨pv,fv,cv,hv,yv,dv,h1,⟨ps,p1,p2,p3⟩,h4,⟨cvs,h5,h6⟩,h7,⟨yvs,h8,h9⟩,h10⟩ := h.cells
 obtain ⟨nv',k1,k4⟩ := hc pv fv cv hv yv dv h1
 have no : ∀ r j,r ≠ 1 → r ≠ 4 → ¬ S (B,r,j) := fun r j a b hs => by
  rcases hS _ hs with e | e | e
  ·simp_all
  ·simp_all
  ·simp at e; omega
 refine ⟨h.b0,(hf.tag_eq h1).trans h.tptr,pv,nv',cv,hv,yv,dv,k1,⟨ps,p1,p2.fr hf (no _ _ (by decide) (by decide)),fun i p P a b => ?_⟩,k4,⟨cvs,h5.fr hf (no _ _ (by decide) (by decide)),fun i l hl => ?_⟩,h7.fr hf (no _ _ (by decide) (by decide)),⟨yvs,h8.fr hf (no _ _ (by decide) (by decide)),fun i l hl => ?_⟩,h10.fr hf (no _ _ (by decide) (by decide))⟩
 ·have hl := (List.getElem?_eq_some_iff.1 b).1
  refine (p3 i p P a b).fr hf (fun r j hs => ?_)
  have hl' : i < N.places.length := hl
  rcases hS _ hs with e | e | e
  ·simp at e; omega
  ·simp at e; omega
  ·simp at e; omega
 ·obtain ⟨v,hv,hr⟩ := h6 i l hl
  exact ⟨v,hv,hr.fr hf (no _ _ (by decide) (by decide))⟩
 ·obtain ⟨v,hv,hr⟩ := h9 i l hl
  exact ⟨v,hv,hr.fr hf (no _ _ (by decide) (by decide))⟩
theorem RNRep.set_decided (h : RNRep tag B w q N) (hf : Fr S tag tag' w w') (hS : ∀ t,S t → t = (B,1,0) ∨ t = (B,10,0) ∨ B + 32 < t.1) (h32 : N.places.length ≤ 32) (l : List Int)
  (hc : ∀ pv fv cv hv yv dv,w.heap[q]? = some (.cells #[pv,fv,cv,hv,yv,dv] 157 (0,0)) → ∃ dv',w'.heap[q]? = some (.cells #[pv,fv,cv,hv,yv,dv'] 157 (0,0)) ∧ Row tag' (B,10,0) 3 1 w' dv' l.length (ints l)) :
  RNRep tag' B w' q { N with decided := l } := by
 obtain ⟨pv,fv,cv,hv,yv,dv,h1,⟨ps,p1,p2,p3⟩,h4,⟨cvs,h5,h6⟩,h7,⟨yvs,h8,h9⟩,h10⟩ := h.cells
 obtain ⟨nv',k1,k4⟩ := hc pv fv cv hv yv dv h1
 have no : ∀ r j,r ≠ 1 → r ≠ 10 → ¬ S (B,r,j) := fun r j a b hs => by
  rcases hS _ hs with e | e | e
  ·simp_all
  ·simp_all
  ·simp at e; omega
 refine ⟨h.b0,(hf.tag_eq h1).trans h.tptr,pv,fv,cv,hv,yv,nv',k1,⟨ps,p1,p2.fr hf (no _ _ (by decide) (by decide)),fun i p P a b => ?_⟩,h4.fr hf (no _ _ (by decide) (by decide)),⟨cvs,h5.fr hf (no _ _ (by decide) (by decide)),fun i l hl => ?_⟩,h7.fr hf (no _ _ (by decide) (by decide)),⟨yvs,h8.fr hf (no _ _ (by decide) (by decide)),fun i l hl => ?_⟩,k4⟩
 ·have hl := (List.getElem?_eq_some_iff.1 b).1
  refine (p3 i p P a b).fr hf (fun r j hs => ?_)
  have hl' : i < N.places.length := hl
  rcases hS _ hs with e | e | e
  ·simp at e; omega
  ·simp at e; omega
  ·simp at e; omega
 ·obtain ⟨v,hv,hr⟩ := h6 i l hl
  exact ⟨v,hv,hr.fr hf (no _ _ (by decide) (by decide))⟩
 ·obtain ⟨v,hv,hr⟩ := h9 i l hl
  exact ⟨v,hv,hr.fr hf (no _ _ (by decide) (by decide))⟩
theorem RNRep.set_history (h : RNRep tag B w q N) (hf : Fr S tag tag' w w') {j : Nat} (hj : j < N.history.length) (hS : ∀ t,S t → t = (B,8,0) ∨ t = (B,9,(j : Int)) ∨ B + 32 < t.1) (h32 : N.places.length ≤ 32) (l : List Int)
  {pv0 fv0 cv0 hv0 yv0 dv0 v : Value} {yvs : List Value} (hc : w.heap[q]? = some (.cells #[pv0,fv0,cv0,hv0,yv0,dv0] 157 (0,0))) (hyl : yvs.length = N.history.length)
  (h9 : ∀ (i : Nat) (l : List Int),N.history[i]? = some l → ∃ v,yvs[i]? = some v ∧ Row tag (B,9,(i : Int)) 3 1 w v l.length (ints l))
  (k8 : Row tag' (B,8,0) 22 1 w' yv0 N.history.length (yvs.set j v)) (k9 : Row tag' (B,9,(j : Int)) 3 1 w' v l.length (ints l)) :
  RNRep tag' B w' q { N with history := N.history.set j l } := by
 obtain ⟨pv,fv,cv,hv,yv,dv,h1,⟨ps,p1,p2,p3⟩,h4,⟨cvs,h5,h6⟩,h7,⟨yvs',h8,_⟩,h10⟩ := h.cells
 obtain ⟨rfl,rfl,rfl,rfl,rfl,rfl⟩ : pv0 = pv ∧ fv0 = fv ∧ cv0 = cv ∧ hv0 = hv ∧ yv0 = yv ∧ dv0 = dv := by
  have := hc.symm.trans h1
  simpa using this
 have no : ∀ r i,r ≠ 8 → r ≠ 9 → ¬ S (B,r,i) := fun r i a b hs => by
  rcases hS _ hs with e | e | e
  ·simp_all
  ·simp_all
  ·simp at e; omega
 refine ⟨h.b0,(hf.tag_eq h1).trans h.tptr,pv0,fv0,cv0,hv0,yv0,dv0,hf.heap h1 (by rw [h.tptr]; exact no _ _ (by decide) (by decide)),⟨ps,p1,p2.fr hf (no _ _ (by decide) (by decide)),fun i p P a b => ?_⟩,h4.fr hf (no _ _ (by decide) (by decide)),⟨cvs,h5.fr hf (no _ _ (by decide) (by decide)),fun i l hl => ?_⟩,h7.fr hf (no _ _ (by decide) (by decide)),⟨yvs.set j v,by simpa using k8,fun i l' hl => ?_⟩,h10.fr hf (no _ _ (by decide) (by decide))⟩
 ·have hl := (List.getElem?_eq_some_iff.1 b).1
  refine (p3 i p P a b).fr hf (fun r j' hs => ?_)
  have hl' : i < N.places.length := hl
  rcases hS _ hs with e | e | e
  ·simp at e; omega
  ·simp at e; omega
  ·simp at e; omega
 ·obtain ⟨v,hv,hr⟩ := h6 i l hl
  exact ⟨v,hv,hr.fr hf (no _ _ (by decide) (by decide))⟩
 ·have hl' : (N.history.set j l)[i]? = some l' := hl
  rw [List.getElem?_set] at hl'
  by_cases e : j = i
  ·subst e
   simp [hj] at hl'
   subst hl'
   exact ⟨v,by simp [hyl,hj],k9⟩
  ·rw [if_neg e] at hl'
   obtain ⟨u,hu,hr⟩ := h9 i l' hl'
   exact ⟨u,by rw [List.getElem?_set_ne (by omega)]; exact hu,hr.fr hf (fun hs => by
    rcases hS _ hs with e' | e' | e'
    ·simp at e'
    ·simp at e'; omega
    ·simp at e'; omega)⟩
end
end Go.Proofs.Ytclkokkppgchfaa
