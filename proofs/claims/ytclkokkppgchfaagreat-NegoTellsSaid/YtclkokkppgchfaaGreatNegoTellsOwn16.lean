/- A part of the proof: texts of this session, joined. -/
import Derived.Test.YtclkokkppgchfaaGreatNegoTellsOwn15
import Derived.Test.YtclkokkppgchfaaGreatPart9
import Derived.Test.YtclkokkppgchfaaGreatPart6
import Derived.Test.YtclkokkppgchfaaGreatPart10
import Derived.Test.YtclkokkppgchfaaGreatShort
set_option linter.unusedSimpArgs false
set_option linter.unusedVariables false
namespace Go.Proofs.YtclkokkppgchfaaGreat
open Go.RowKit Go.Ng Go.Proofs.YtclkokkppgchfaaGreatW.PrintLast
theorem Tryz.info134 : (Tryz.prog.info? 134).map (fun i => (i.zero,i.size,i.bytes)) = some (some (.agg #[.int .i64 0,.slice none 0 0,.int .i64 0,.int .i64 0]),4,48) := by kernel_rfl
section
variable {S : Tag → Prop} {tag tag' : Nat → Tag} {w w' : World} {k p R : Nat} {P P' : PlaceM}
theorem RPRep.add_prop {n : Int} {y : PropM} {x' : RPr} {av iv pv pv' : Value} {prs : List RPr} (h : RPRep tag k w p P) (hf : Fr S tag tag' w w') (hS : ∀ t,S t → t = (k,1,0) ∨ t = (k,4,0) ∨ t.1 ≠ k)
  (h1 : w.heap[p]? = some (.cells #[.int .i64 P.no,av,iv,pv] 127 (0,0))) (h1' : w'.heap[p]? = some (.cells #[.int .i64 P.no,av,iv,pv'] 127 (0,0))) (hl : prs.length = P.props.length) (h8 : ∀ (i : Nat) n y x,P.props[i]? = some (n,y) → prs[i]? = some x → RProp tag k w i n y x)
  (h7 : Row tag' (k,4,0) 134 4 w' pv' (prs.length + 1) ((prs ++ [x']).flatMap RPr.cells)) (hI : RProp tag' k w' prs.length n y x') : RPRep tag' k w' p { P with props := P.props ++ [(n,y)] } := by
 obtain ⟨av',iv',pv0,g1,g2,⟨its,g3,g4,g5⟩,_⟩ := h.cells
 obtain ⟨rfl,rfl,rfl⟩ : av' = av ∧ iv' = iv ∧ pv0 = pv := by have := g1.symm.trans h1; simpa using this
 have no : ∀ (r : Nat) (i : Int),r ≠ 1 → r ≠ 4 → ¬ S (k,r,i) := by
  intro r i n1 n4 hs
  rcases hS _ hs with e | e | e
  ·injection e with _ e; injection e with e _; exact n1 e
  ·injection e with _ e; injection e with e _; exact n4 e
  ·exact e rfl
 refine ⟨h.k0,(hf.tag_eq h1).trans h.ptr,av',iv',pv',h1',g2.fr hf (no _ _ (by decide) (by decide)),⟨its,g3,g4.fr hf (no _ _ (by decide) (by decide)),fun j it x a b => (g5 j it x a b).fr' hf (no _ _ (by decide) (by decide)) (no _ _ (by decide) (by decide))⟩,
  prs ++ [x'],by simp [hl],by rw [List.length_append]; exact h7,fun i1 n1 y1 x1 a b => ?_⟩
 by_cases e : i1 < prs.length
 ·have ha : P.props[i1]? = some (n1,y1) := by
   have a' : (P.props ++ [(n,y)])[i1]? = some (n1,y1) := a
   rw [List.getElem?_append_left (by omega)] at a'
   exact a'
  rw [List.getElem?_append_left e] at b
  have := h8 i1 n1 y1 x1 ha b
  exact ⟨this.no,this.st,this.got,this.cr.owned this.ct hf (no _ _ (by decide) (by decide)),this.ct.fr hf⟩
 ·have hi1 : i1 = prs.length := by
   have := (List.getElem?_eq_some_iff.1 b).1
   simp at this
   omega
  subst hi1
  have a' : (P.props ++ [(n,y)])[prs.length]? = some (n1,y1) := a
  rw [hl,List.getElem?_append_right (Nat.le_refl _)] at a'
  rw [List.getElem?_append_right (Nat.le_refl _)] at b
  simp at a' b
  obtain ⟨rfl,rfl⟩ := a'
  subst b
  exact hI
theorem idxR_of_none {l : List (Int × PropM)} {n : Int} (h : find l n = none) : idxR n l = -1 := by
 refine idxR_none (fun i hi x hx => ?_)
 unfold find at h
 rw [Option.map_eq_none_iff,List.find?_eq_none] at h
 simpa using h x (List.mem_of_getElem? hx)
theorem rfind_no (n : Int) (hi : idxR n P.props = -1) (h : RPRep tag k w p P) :
  Calls Tryz.prog 67 #[.pointer (some ⟨p,0,none⟩),.int .i64 n] w fun e w' => e = .returned (.int .i64 (-1)) ∧ w' = w := hi ▸ rfind_ok n h
theorem rright_val (l : List Clm) {v : Value} (r : Bool) (hr' : claimedB P.sites.length l = r) (h : RPRep tag k w p P) (hr : Rd 2 w v l.length (claims l)) (hok : TagOk tag w) :
  Calls Tryz.prog 64 #[.pointer (some ⟨p,0,none⟩),v] w fun e w' => e = .returned (.bool r) ∧ Fr (fun _ => False) tag tag w w' := hr' ▸ rright_ok l h hr hok
set_option maxRecDepth 100000 in
set_option maxHeartbeats 6400000 in
theorem rpropose_ok (n : Int) (l : List Clm) {v : Value} (h : RPRep tag k w p P) (hok : TagOk tag w) (hR : R ≠ 0) (hRk : R ≠ k) (hr : Rd 2 w v l.length (claims l))
  (hcl : claimedB P.sites.length l = true) (hn1 : 0 ≤ n) (hn2 : n ≤ 2147483647) (hf : find P.props n = none) (hlen : P.props.length < 4000) (ho : P.out = []) (hc : P.came = []) :
  Calls Tryz.prog 65 #[.pointer (some ⟨p,0,none⟩),.int .i64 n,v] w (RTook R k p tag w (proposeM P n l 0)) := by
 obtain ⟨j0,hj,hy0,hy1,hy2⟩ := info_parts Tryz.info48
 obtain ⟨j1,hj1,hx0,hx1,hx2⟩ := info_parts Tryz.info134
 obtain ⟨c0,hc0⟩ := claimed_head hcl
 have hck := claimed_of hcl
 obtain ⟨ci,cver⟩ := c0
 have hc1 := hck.item _ (List.mem_of_getElem? hc0)
 simp only at hc1
 obtain ⟨mm,rfl⟩ := Int.eq_ofNat_of_zero_le hc1.1
 have hmm : mm < P.sites.length := by omega
 have hll : 1 ≤ l.length ∧ l.length ≤ 64 := hck.len
 have hm : proposeM P n l 0 = ({ P with props := P.props ++ [(n,⟨0,l,1,0⟩)] } : PlaceM).send 1 (P.site (mm : Int)) n (mm : Int) cver := by
  cases l with
  | nil => simp at hc0
  | cons a l => simp at hc0; subst hc0; rfl
 obtain ⟨vb,voff,vcap,rfl,z1,z2,hvc⟩ := Rd.elem (enc := Clm.cells) hr (fun _ => rfl) (by decide) hc0
 unfold maxLen at z2
 have HMM := Lib.hid hm
 have HC0 := Lib.hid hc0
 have HCL := Lib.hid hcl
 have HR := Lib.hid hr
 have HIX := Lib.hid (idxR_of_none hf)
 have H := Lib.hid h
 have HO := Lib.hid ho
 have HC := Lib.hid hc
 have HML := Lib.hid hmm
 have hk0 := h.k0
 obtain ⟨hl1,hl2⟩ := hll
 clear hm hc0 hcl hr hf h ho hc hvc hck hc1 hmm
 go_enter Tryz.func65,Tryz.ntmps65
 go_upto_region 1 with fail
 obtain ⟨w1,hw1⟩ : ∃ x,x = w.alloc (.cells #[.slice none 0 0,.slice none 0 0] 130) := ⟨_,rfl⟩
 rw [← hw1]
 obtain ⟨b1,hb1⟩ : ∃ x,x = w.heap.size := ⟨_,rfl⟩
 rw [← hb1]
 have hwb : w.heap.size ≤ b1 := by omega
 have HF1 : Hid (Fr (fun _ => False) tag tag w w1) := Lib.hid (by rw [hw1]; exact (Fr.refl hok).al _)
 have HZ1 : Hid (w1.heap[b1]? = some (.cells #[.slice none 0 0,.slice none 0 0] 130 (0,0))) := Lib.hid (by rw [hw1,hb1]; exact heap_alloc_at _ _)
 have HTB : Hid ((tag b1).1 = 0) := Lib.hid (tag_new hok (by omega))
 have HP1 := Lib.hid (H.out.frF HF1.out)
 have HR1 := Lib.hid (HR.out.frF HF1.out)
 have hok1 := HF1.out.dom
 clear hw1 hb1
 go_upto_region 8 with (first
  | (go_at_call 64; refine (rright_val l true HCL.out HP1.out HR1.out hok1).mono ?_; rintro e w2 ⟨rfl,hF2⟩; have HF2 := Lib.hid (HF1.out.trans hF2); have HZ2 := Lib.hid (hF2.heap HZ1.out (fun x => x)); have HP2 := Lib.hid (HP1.out.frF hF2); have HR2 := Lib.hid (HR1.out.frF hF2); have hok2 := hF2.dom; clear hF2)
  | (go_at_call 67; refine (rfind_no n HIX.out HP2.out).mono ?_; rintro e w5 ⟨rfl,h5⟩; have h5 := h5.symm; subst h5))
 obtain ⟨av,iv,pv,g1,g2,g3,prs,g6,g7,g8⟩ := HP2.out.cells
 obtain ⟨PA,pcap,rfl,q1,q2⟩ := g7.form
 unfold maxLen at q2
 have c3 : w2.cell? ⟨p,3,none⟩ = some (.slice PA prs.length pcap) := cell_of g1 3
 have hpw := lt_of_heap g1
 have hlen2 : prs.length < 4000 := by omega
 have hlen3 : (prs.length : Int) < 4000 := by omega
 have G1 := Lib.hid g1
 have G6 := Lib.hid g6
 have G7 := Lib.hid g7
 have G8 := Lib.hid g8
 have hzl := lt_of_heap HZ2.out
 clear g1 g2 g3 g6 g7 g8
 go_upto_region 11 with fail
 obtain ⟨w3,hw3⟩ : ∃ x,x = w2.alloc (.cells #[.int .i64 n,.slice none 0 0,.int .i64 1,.int .i64 0] 134) := ⟨_,rfl⟩
 rw [← hw3]
 obtain ⟨b2,hb2⟩ : ∃ x,x = w2.heap.size := ⟨_,rfl⟩
 rw [← hb2]
 have hb12 : b1 < b2 := by omega
 have HF3 : Hid (Fr (fun _ => False) tag tag w w3) := Lib.hid (by rw [hw3]; exact HF2.out.al _)
 have HX3 : Hid (w3.heap[b2]? = some (.cells #[.int .i64 n,.slice none 0 0,.int .i64 1,.int .i64 0] 134 (0,0))) := Lib.hid (by rw [hw3,hb2]; exact heap_alloc_at _ _)
 have HZ3 : Hid (w3.heap[b1]? = some (.cells #[.slice none 0 0,.slice none 0 0] 130 (0,0))) := Lib.hid (by rw [hw3]; exact heap_alloc_lt HZ2.out _)
 have HTX : Hid ((tag b2).1 = 0) := Lib.hid (tag_new hok (by omega))
 have HA3 : Hid (Fr (fun _ => False) tag tag w2 w3) := Lib.hid (by rw [hw3]; exact Fr.alloc hok2 _)
 have HR3 := Lib.hid (HR2.out.frF HA3.out)
 have hok3 := HF3.out.dom
 clear hw3 hb2 c3 hzl
 have hnews : ∀ (j : Nat) u,(claims l)[j]? = some u → w3.cell? ((⟨vb,voff,none⟩ : Addr).add j) = some u := by
  intro j u hu
  rw [add_lit]
  rcases HR3.out.form with ⟨hv,_⟩ | ⟨vb',voff',vcap',hv,_,_,h4⟩
  ·cases hv
  ·injection hv with hv _ _
   injection hv with hv
   injection hv with hv hv2
   subst hv hv2
   exact h4 j u hu
 have HNEWS := Lib.hid hnews
 clear hnews
 have x1 : w3.cell? ⟨b2,1,none⟩ = some (.slice none 0 0) := cell_of HX3.out 1
 go_upto_region 12 with (
  at_builtin
  refine append_bare_list (k,5,(prs.length : Int)) rfl (.tmp 42) (.tmp 43) 37 rfl (by rfl) (by rfl) hok3 Tryz.underlying37 hj hy0 hy1 hy2 rfl (by decide) (claims l) (claims_len l) HNEWS.out (claims_one l) (by omega) (by unfold maxLen; omega) (by omega) ?_
  intro g5 cap5 w4 tag4 hrow hfr hg5
  have HX4 := Lib.hid (hfr.heap HX3.out (fun x => x))
  have v1 : w4.cell? ⟨b2,1,none⟩ = some (.slice none 0 0) := cell_of HX4.out 1
  have vz1 := free_of HX4.out 1
  have HFR4 := Lib.hid hfr
  have HROW4 := Lib.hid hrow
  clear hrow hfr hg5)
 obtain ⟨w5,hw5⟩ : ∃ x,x = w4.setCell ⟨b2,1,none⟩ (.slice (some ⟨g5,0,none⟩) l.length cap5) := ⟨_,rfl⟩
 rw [← hw5]
 have HTB4 : Hid ((tag4 b1).1 = 0 ∧ (tag4 b2).1 = 0) := Lib.hid ⟨by rw [HFR4.out.same b1 (lt_of_heap HZ3.out)]; exact HTB.out,by rw [HFR4.out.same b2 (lt_of_heap HX3.out)]; exact HTX.out⟩
 have HF5 : Hid (Fr (fun _ => False) tag tag4 w w5) := Lib.hid (by rw [hw5]; exact (HF3.out.trans HFR4.out).scn (by omega) _ _)
 have HL5 : Hid (Fr (fun t => t.1 = 0) tag4 tag4 w4 w5) := Lib.hid (by rw [hw5]; exact Fr.setCell HFR4.out.dom (a := ⟨b2,1,none⟩) HTB4.out.2 _)
 have HX5 : Hid (w5.heap[b2]? = some (.cells #[.int .i64 n,.slice (some ⟨g5,0,none⟩) l.length cap5,.int .i64 1,.int .i64 0] 134 (0,0))) := Lib.hid (by rw [hw5,Go.Ng.heap_setCell_same HX4.out 1 _]; rfl)
 have HZ5 : Hid (w5.heap[b1]? = some (.cells #[.slice none 0 0,.slice none 0 0] 130 (0,0))) := Lib.hid (by rw [hw5]; exact (Go.Ng.heap_setCell_ne (by omega) _ _).trans (HFR4.out.heap HZ3.out (fun x => x)))
 have HM5 : Hid (Fr (fun t => t.1 = 0) tag tag4 w2 w5) := Lib.hid ((HA3.out.up.trans HFR4.out.up).trans HL5.out)
 have HCR5 := Lib.hid (HROW4.out.fr HL5.out hk0)
 have hok5 := HF5.out.dom
 have HP5 := Lib.hid (HP2.out.fr HM5.out (fun r i => hk0))
 have HG1 := Lib.hid (HM5.out.heap G1.out (by rw [HP2.out.ptr]; exact hk0))
 have HG7 := Lib.hid (G7.out.fr HM5.out hk0)
 have HPT5 := Lib.hid HP5.out.ptr
 clear hw5 x1 v1 vz1
 have c3 : w5.cell? ⟨p,3,none⟩ = some (.slice PA prs.length pcap) := cell_of HG1.out 3
 have x0 : w5.cell? ⟨b2,0,none⟩ = some (.int .i64 n) := cell_of HX5.out 0
 have x1 : w5.cell? ⟨b2,1,none⟩ = some (.slice (some ⟨g5,0,none⟩) l.length cap5) := cell_of HX5.out 1
 have x2 : w5.cell? ⟨b2,2,none⟩ = some (.int .i64 1) := cell_of HX5.out 2
 have x3 : w5.cell? ⟨b2,3,none⟩ = some (.int .i64 0) := cell_of HX5.out 3
 refine start_ (n:=11) (S:=fun w' => w'.cell? ⟨p,3,none⟩ = some (.slice PA prs.length pcap) ∧ w'.cell? ⟨b2,0,none⟩ = some (.int .i64 n) ∧ w'.cell? ⟨b2,1,none⟩ = some (.slice (some ⟨g5,0,none⟩) l.length cap5) ∧ w'.cell? ⟨b2,2,none⟩ = some (.int .i64 1) ∧ w'.cell? ⟨b2,3,none⟩ = some (.int .i64 0)) (ds := [10]) #[f_,f_,f_,f_,f_,f_,f_,f_,f_,f_,f_] (by kernel_rfl) rfl rfl ⟨c3,x0,x1,x2,x3⟩ (fun hHeld => ?_)
 refine pure_ (i:=0) (N:=some 46) (v:=?_) (a':=?_) #[t_,f_,f_,f_,f_,f_,f_,f_,f_,f_,f_] rfl rfl (by kernel_rfl) (fun _ _ _ h => h) (Or.inl ⟨by rfl,?_⟩) ?_ ?_
 rotate_left;intro w';go_simp;with_reducible rfl;rotate_left;simp only [Act.put,sA_,sB_,sC_,i64_w,i32_w];rfl
 refine pure_ (i:=1) (N:=some 47) (v:=?_) (a':=?_) #[t_,t_,f_,f_,f_,f_,f_,f_,f_,f_,f_] rfl rfl (by kernel_rfl) (fun _ _ _ h => h) (Or.inl ⟨by rfl,?_⟩) ?_ ?_
 rotate_left;intro w';go_simp;with_reducible rfl;rotate_left;simp only [Act.put,sA_,sB_,sC_,i64_w,i32_w];rfl
 refine pure_ (i:=2) (N:=some 48) (v:=?_) (a':=?_) #[t_,t_,t_,f_,f_,f_,f_,f_,f_,f_,f_] rfl rfl (by kernel_rfl) (fun _ _ _ h => h) (Or.inl ⟨by rfl,?_⟩) ?_ ?_
 rotate_left;intro w';go_simp;with_reducible rfl;rotate_left;simp only [Act.put,sA_,sB_,sC_,i64_w,i32_w];rfl
 refine pure_ (i:=3) (N:=some 49) (v:=?_) (a':=?_) #[t_,t_,t_,t_,f_,f_,f_,f_,f_,f_,f_] rfl rfl (by kernel_rfl) (fun _ _ _ h => h) (Or.inl ⟨by rfl,?_⟩) ?_ ?_
 rotate_left;intro w';go_simp;with_reducible rfl;rotate_left;simp only [Act.put,sA_,sB_,sC_,i64_w,i32_w];rfl
 refine take_ (i:=4) (N:=some 50) (v:=?_) (a':=?_) #[t_,t_,t_,t_,t_,f_,f_,f_,f_,f_,f_] rfl rfl (by kernel_rfl) (fun _ _ _ h => h) (Or.inl ⟨by rfl,?_⟩) hHeld ?_ ?_
 rotate_left;rintro w' ⟨s0,s1,s2,s3,s4⟩;go_simp;with_reducible rfl;rotate_left;simp only [Act.put,sA_,sB_,sC_,i64_w,i32_w];rfl
 refine take_ (i:=5) (N:=some 51) (v:=?_) (a':=?_) #[t_,t_,t_,t_,t_,t_,f_,f_,f_,f_,f_] rfl rfl (by kernel_rfl) (fun _ _ _ h => h) (Or.inl ⟨by rfl,?_⟩) hHeld ?_ ?_
 rotate_left;rintro w' ⟨s0,s1,s2,s3,s4⟩;go_simp;with_reducible rfl;rotate_left;simp only [Act.put,sA_,sB_,sC_,i64_w,i32_w];rfl
 refine one_ (i:=6) (N:=some 52) #[t_,t_,t_,t_,t_,t_,t_,f_,f_,f_,f_] rfl rfl (by kernel_rfl) (by decide) (fun K hK => ?_)
 refine value_ (w1:=?_) (v:=?_) (by rfl) rfl ?_ ?_
 rotate_left 2
 ·go_simp
  constructor
  ·rfl
  ·rfl
 refine hK.out _ _ ⟨(ca hHeld.1 _),(ca hHeld.2.1 _),(ca hHeld.2.2.1 _),(ca hHeld.2.2.2.1 _),(ca hHeld.2.2.2.2 _)⟩ (fun hHeld => ?_)
 clear hK K
 refine norm_ (a':=?_) ?_ ?_
 rotate_left
 ·show Act.put _ (some 52) _ = _
  simp only [Act.put,sA_,sB_,sC_,i64_w,i32_w]
  rfl
 refine one_ (i:=7) (N:=some 53) #[t_,t_,t_,t_,t_,t_,t_,t_,f_,f_,f_] rfl rfl (by kernel_rfl) (by decide) (fun K hK => ?_)
 refine append_arm (by rfl) rfl (.tmp 50) (.tmp 52) 125 rfl (by rfl) (by rfl) ((HG7.out.alloc _).drew) ((hok5.alloc _).drew) Tryz.underlying125 hj1 hx0 hx1 hx2 rfl (by decide) [.int .i64 n,.slice (some ⟨g5,0,none⟩) l.length cap5,.int .i64 1,.int .i64 0] rfl (news_at (heap_alloc_at _ _)) (by simp [Value.oneCell']) (by decide) (by unfold maxLen; omega) (by omega) ?_
 intro g7 cap7 w7 tag7 hrow hfr
 have hz7 : ∀ x y,tag4 x ≠ (k,4,0) → w5.heap[x]? = some y → w7.heap[x]? = some y := fun x y ht hy => hfr.heap (heap_alloc_lt hy _) ht
 have HX7 := Lib.hid (hz7 _ _ (t0_ne HTB4.out.2 hk0) HX5.out)
 have HZ7 := Lib.hid (hz7 _ _ (t0_ne HTB4.out.1 hk0) HZ5.out)
 have HG17 := Lib.hid (hz7 _ _ (by rw [HPT5.out]; simp) HG1.out)
 have d3 : w7.cell? ⟨p,3,none⟩ = some (.slice PA prs.length pcap) := cell_of HG17.out 3
 have dz3 := free_of HG17.out 3
 have HFR7 := Lib.hid hfr
 have HROW7 := Lib.hid hrow
 clear hrow hfr hz7
 refine hK.out _ _ ⟨d3,(cell_of HX7.out 0),(cell_of HX7.out 1),(cell_of HX7.out 2),(cell_of HX7.out 3)⟩ (fun hHeld => ?_)
 clear hK K
 refine norm_ (a':=?_) ?_ ?_
 rotate_left
 ·show Act.put _ (some 53) _ = _
  simp only [Act.put,sA_,sB_,sC_,i64_w,i32_w]
  rfl
 refine pure_ (i:=8) (N:=some 54) (v:=?_) (a':=?_) #[t_,t_,t_,t_,t_,t_,t_,t_,t_,f_,f_] rfl rfl (by kernel_rfl) (fun _ _ _ h => h) (Or.inl ⟨by rfl,?_⟩) ?_ ?_
 rotate_left;intro w';go_simp;with_reducible rfl;rotate_left;simp only [Act.put,sA_,sB_,sC_,i64_w,i32_w];rfl
 refine pure_ (i:=9) (N:=some 55) (v:=?_) (a':=?_) #[t_,t_,t_,t_,t_,t_,t_,t_,t_,t_,f_] rfl rfl (by kernel_rfl) (fun _ _ _ h => h) (Or.inl ⟨by rfl,?_⟩) ?_ ?_
 rotate_left;intro w';go_simp;with_reducible rfl;rotate_left;simp only [Act.put,sA_,sB_,sC_,i64_w,i32_w];rfl
 refine last_ (i:=10) (N:=none) #[t_,t_,t_,t_,t_,t_,t_,t_,t_,t_,t_] rfl rfl (by kernel_rfl) (by decide) (fun K hK => ?_)
 refine skip_ (w1:=?_) (by rfl) rfl ?_ ?_
 rotate_left
 ·go_simp
  rfl
 refine hK.out _ _ ?_
 clear hK K
 refine done_ (by kernel_rfl) ?_
 clear hHeld c3 x0 x1 x2 x3
 go_upto_region 13 with fail
 obtain ⟨w8,hw8⟩ : ∃ x,x = w7.setCell ⟨p,3,none⟩ (.slice (some ⟨g7,0,none⟩) (prs.length + 1) cap7) := ⟨_,rfl⟩
 rw [← hw8]
 have htp : tag7 p = (k,1,0) := (HFR7.out.same p (lt_of_heap (heap_alloc_lt HG1.out _))).trans HPT5.out
 have hs8 : Fr (fun t => t = (k,1,0)) tag7 tag7 w7 w8 := by rw [hw8]; exact Fr.setCell HFR7.out.dom (a := ⟨p,3,none⟩) htp _
 have hf8 : Fr (fun t => t = (k,1,0) ∨ t = (k,4,0)) tag4 tag7 w5 w8 := (((Fr.refl hok5).al _).dr.trans (HFR7.out.mono (fun _ h => .inr h))).trans (hs8.mono (fun _ h => .inl h))
 have hg8 : w8.heap[p]? = some (.cells #[.int .i64 P.no,av,iv,.slice (some ⟨g7,0,none⟩) (prs.length + 1) cap7] 127 (0,0)) := by rw [hw8,Go.Ng.heap_setCell_same HG17.out 3 _]; rfl
 have hrow8 : Row tag7 (k,4,0) 134 4 w8 (.slice (some ⟨g7,0,none⟩) (prs.length + 1) cap7) (prs.length + 1) ((prs ++ [(⟨n,.slice (some ⟨g5,0,none⟩) l.length cap5,1,0⟩ : RPr)]).flatMap RPr.cells) := by
  rw [List.flatMap_append]
  exact HROW7.out.fr hs8 (by simp)
 have hP8 : RPRep tag7 k w8 p { P with props := P.props ++ [(n,⟨0,l,1,0⟩)] } := by
  refine HP5.out.add_prop hf8 (fun t h => by rcases h with h | h <;> first | exact .inl h | exact .inr (.inl h)) HG1.out hg8 G6.out (fun i n y x a b => (G8.out i n y x a b).fr HM5.out (fun r i => hk0)) hrow8 ⟨rfl,rfl,rfl,?_,?_⟩
  ·exact (HCR5.out.fr hf8 (by simp)).rd (claims_one l)
  ·exact Row.owned (HCR5.out.fr hf8 (by simp)) (by omega) (by decide)
 have HP8 := Lib.hid hP8
 have HF8 : Hid (Fr (fun t => t.1 = k) tag tag7 w w8) := Lib.hid (HF5.out.up.trans (hf8.mono (fun t h => by rcases h with h | h <;> rw [h])))
 have HZ8 : Hid (w8.heap[b1]? = some (.cells #[.slice none 0 0,.slice none 0 0] 130 (0,0))) := Lib.hid (by rw [hw8]; exact (Go.Ng.heap_setCell_ne (fun e => by have := HTB4.out.1; rw [e,HPT5.out] at this; exact hk0 this) _ _).trans HZ7.out)
 have HTB8 : Hid ((tag7 b1).1 = 0) := Lib.hid (by rw [HFR7.out.same b1 (lt_of_heap (heap_alloc_lt HZ5.out _))]; exact HTB4.out.1)
 have HI8 : Hid (({ P with props := P.props ++ [(n,⟨0,l,1,0⟩)] } : PlaceM).props[prs.length]? = some (n,⟨0,l,1,0⟩)) := Lib.hid (by show (P.props ++ [_])[prs.length]? = _; rw [G6.out]; simp)
 have hok8 := HF8.out.dom
 have c3 : w8.cell? ⟨p,3,none⟩ = some (.slice (some ⟨g7,0,none⟩) (prs.length + 1) cap7) := cell_of hg8 3
 clear hw8 htp hs8 hf8 hg8 hrow8 hP8 d3 dz3
 go_wp2_with (
  go_at_call 85
  refine (rask_ok (i:=prs.length) (n:=n) (y := ⟨0,l,1,0⟩) (m := mm) (cver := cver) (R,1,0) HP8.out hok8 HI8.out HC0.out HML.out).mono ?_
  rintro e w9 ⟨ov,tag9,rfl,hrow,hF9⟩
  obtain ⟨OA,ocap,rfl,o1,o2⟩ := hrow.form
  have hZ9 := hF9.heap HZ8.out (fun x => x)
  have r0 : w9.cell? ⟨b1,0,none⟩ = some (.slice none 0 0) := cell_of hZ9 0
  have r1 : w9.cell? ⟨b1,1,none⟩ = some (.slice none 0 0) := cell_of hZ9 1
  have rz0 := free_of hZ9 0
  have rz1 := free_of hZ9 1
  have HZ9 := Lib.hid hZ9
  have HF9 := Lib.hid hF9
  have HROW := Lib.hid hrow
  clear hZ9 hF9 hrow)
 obtain ⟨wz,hwz⟩ : ∃ x,x = (w9.setCell ⟨b1,0,none⟩ (.slice OA 1 ocap)).setCell ⟨b1,1,none⟩ (.slice none 0 0) := ⟨_,rfl⟩
 rw [← hwz]
 have hzz : wz.heap[b1]? = some (.cells #[.slice OA 1 ocap,.slice none 0 0] 130 (0,0)) := by
  rw [hwz,Go.Ng.heap_setCell_same (Go.Ng.heap_setCell_same HZ9.out 0 _) 1 _]
  rfl
 have rr0 : wz.cell? ⟨b1,0,none⟩ = some (.slice OA 1 ocap) := cell_of hzz 0
 have rr1 : wz.cell? ⟨b1,1,none⟩ = some (.slice none 0 0) := cell_of hzz 1
 refine bodyPost_ret (v:=.tuple #[.agg #[.slice OA 1 ocap,.slice none 0 0],.int .i64 0]) (by simp [results,Tryz.results65,go_sem,rr0,rr1]) rfl ?_
 rw [HMM.out]
 have htz : (tag9 b1).1 = 0 := by rw [HF9.out.same b1 (lt_of_heap HZ8.out)]; exact HTB8.out
 have hLz : Fr (fun t => t.1 = 0) tag9 tag9 w9 wz := by rw [hwz]; exact ((Fr.refl HF9.out.dom).sc b1 _ _ htz).sc b1 _ _ htz
 refine ⟨_,_,tag9,rfl,?_,?_,(((HP8.out.frF HF9.out).fr hLz (fun r i => hk0)).congr rfl rfl rfl rfl),by rw [hwz]; exact ((((HF8.out.trans HF9.out.up).scn (by omega) _ _).scn (by omega) _ _).mono (fun t h => .inl h))⟩
 ·show Row _ _ _ _ _ _ (P.out ++ [_]).length (posts (P.out ++ [_]))
  rw [HO.out]
  exact HROW.out.fr hLz hR
 ·show Row _ _ _ _ _ _ P.came.length (cames P.came)
  rw [HC.out]
  exact Row.nil _ _ _ _ _
set_option maxRecDepth 100000 in
set_option maxHeartbeats 6400000 in
theorem rdrop_ok {x : PropM} {n : Int} (h : RPRep tag k w p P) (hok : TagOk tag w) (hR : R ≠ 0) (hRk : R ≠ k) (hW : WF P) (hnd : (P.props.map (·.1)).Nodup) (hf : find P.props n = some x) (hst : x.state = 1) (ho : P.out = []) :
  Calls Tryz.prog 68 #[.pointer (some ⟨p,0,none⟩),.int .i64 n] w fun e w' => ∃ ov tag',e = .returned (.tuple #[ov,.int .i64 0]) ∧ Row tag' (R,1,0) 52 6 w' ov (dropM P n x).out.length (posts (dropM P n x).out) ∧ RPRep tag' k w' p (dropM P n x) ∧ Fr (fun t => t.1 = k ∨ t.1 = R) tag tag' w w' := by
 obtain ⟨i,hi,hix⟩ := find_idx hf
 have hxm : (n,x) ∈ P.props := List.mem_of_getElem? hi
 have hglt := hW.opens _ _ hxm hst
 have hfew := hW.few _ _ hxm
 have hcls := hW.claims _ _ hxm
 obtain ⟨c,hc⟩ : ∃ c,x.claims[x.granted]? = some c := ⟨_,List.getElem?_eq_getElem hglt⟩
 have HMM := Lib.hid (dropM_eq (P := P) (n:=n) hc)
 have HU := Lib.hid (nodup_idx hnd hi)
 have HI := Lib.hid hi
 have HIX := Lib.hid hix
 have HCLS := Lib.hid hcls
 have H := Lib.hid h
 have HO := Lib.hid ho
 have hk0 := h.k0
 have hrp := h.cells
 obtain ⟨av,iv,pv,g1,g2,g3,prs,g6,g7,g8⟩ := hrp
 obtain ⟨PA,pcap,rfl,q1,q2⟩ := g7.form
 unfold maxLen at q2
 have hil : i < prs.length := by have := (List.getElem?_eq_some_iff.1 HI.out).1; omega
 obtain ⟨⟨xn,xc,xs,xg⟩,hx⟩ : ∃ c,prs[i]? = some c := ⟨_,List.getElem?_eq_getElem hil⟩
 have hr := g8 i n x _ HI.out hx
 obtain ⟨r1,r2,r3,r4,r5⟩ := hr
 simp only at r1 r2 r3 r4 r5
 replace r1 := r1.symm
 subst r1 r2 r3
 obtain ⟨pb,hpv,hpt,hps,hce⟩ := Row.elem (enc := RPr.cells) g7 (fun _ => rfl) (by decide) hx
 subst hpv
 obtain ⟨CA,ccap,rfl,z1,z2⟩ := r4.slice
 unfold maxLen at z2
 have c3 : w.cell? ⟨p,3,none⟩ = some (.slice (some ⟨pb,0,none⟩) prs.length pcap) := cell_of g1 3
 have e2 : w.cell? ⟨pb,i * 4 + 2,none⟩ = some (.int .i64 x.state) := hce 2 _ rfl
 have ez2 : w.frozen? ⟨pb,i * 4 + 2,none⟩ = false := Row.free' g7 (by rw [rprs_len]; omega)
 rw [hst] at e2
 have i1 : (0 : Int) ≤ (i : Int) := by omega
 have i2 : (i : Int) < (prs.length : Int) := by omega
 have i3 : (0 : Int) ≤ (x.granted : Int) := by omega
 have i4 : (x.granted : Int) ≤ 64 := by omega
 have hpp : p ≠ pb := ne_of_tag h.ptr hpt (by simp)
 have G1 := Lib.hid g1
 have G6 := Lib.hid g6
 have G7 := Lib.hid g7
 have G8 := Lib.hid g8
 have HX := Lib.hid hx
 have R4 := Lib.hid r4
 have R5 := Lib.hid r5
 have HPB := Lib.hid hpt
 have HRk := Lib.hid hRk
 have HST := Lib.hid hst
 clear h hi hix hcls hf hxm hnd ho hW g1 g2 g3 g6 g7 g8 hx r4 r5 hce hpt hps hc hRk hst
 go_enter Tryz.func68,Tryz.ntmps68
 go_upto_region 9 with (go_at_call 67; refine (rfind_val n i HIX.out H.out).mono ?_; rintro e w5 ⟨rfl,h5⟩; have h5 := h5.symm; subst h5)
 obtain ⟨w3,hW⟩ : ∃ yy,yy = w.setCell ⟨pb,i * 4 + 2,none⟩ (.int .i64 4) := ⟨_,rfl⟩
 rw [← hW]
 have hG : Fr (fun t => t = (k,4,0)) tag tag w w3 := by rw [hW]; exact Fr.setCell hok (a := ⟨pb,_,none⟩) HPB.out _
 have hrow : Row tag (k,4,0) 134 4 w3 (.slice (some ⟨pb,0,none⟩) prs.length pcap) prs.length ((prs.set i ⟨n,.slice CA x.claims.length ccap,4,(x.granted : Int)⟩).flatMap RPr.cells) := by
  have := rprs_set2 prs i _ 4 HX.out
  rw [hW,← this]
  exact G7.out.put_cell (by rw [rprs_len]; omega) _
 have hP : RPRep tag k w3 p (setProp P n { x with state := 4 }) := H.out.set_prop HI.out HU.out hG (fun t h => .inl h) G1.out G6.out G8.out hrow (y' := { x with state := 4 }) ⟨rfl,rfl,rfl,R4.out.owned R5.out hG (by simp),R5.out.fr hG⟩
 have HP3 := Lib.hid hP
 have hok3 := hG.dom
 have HF3 := Lib.hid hG
 have hg3 := hG.heap G1.out (by rw [H.out.ptr]; simp)
 have HRL := Lib.hid hrow
 have hxs : (prs.set i (⟨n,.slice CA x.claims.length ccap,4,(x.granted : Int)⟩ : RPr))[i]? = some ⟨n,.slice CA x.claims.length ccap,4,(x.granted : Int)⟩ := by simp [hil]
 obtain ⟨pb',hpv',_,_,hce'⟩ := Row.elem (n:=prs.length) (enc := RPr.cells) hrow (fun _ => rfl) (by decide) hxs
 have hpe : pb' = pb := by
  injection hpv' with e
  injection e with e
  exact e.symm
 rw [hpe] at hce'
 have d3 : w3.cell? ⟨p,3,none⟩ = some (.slice (some ⟨pb,0,none⟩) prs.length pcap) := cell_of hg3 3
 have k3 : w3.cell? ⟨pb,i * 4 + 3,none⟩ = some (.int .i64 (x.granted : Int)) := hce' 3 _ rfl
 have HI4 : Hid ((setProp P n { x with state := 4 }).props[i]? = some (n,{ x with state := 4 })) := Lib.hid (upd_get HI.out)
 have HLE : Hid (x.granted + 1 ≤ ({ x with state := 4 } : PropM).claims.length) := Lib.hid hglt
 have HCL : Hid (({ x with state := 4 } : PropM).claims.length ≤ 1000) := Lib.hid (by show x.claims.length ≤ 1000; omega)
 have HCLS4 : Hid (∀ c ∈ ({ x with state := 4 } : PropM).claims,∃ m : Nat,c.item = (m : Int) ∧ m < (setProp P n { x with state := 4 }).sites.length) := Lib.hid HCLS.out
 clear hW hG hrow hP hg3 hxs hce' c3 e2 ez2
 go_wp2_with (
  go_at_call 86
  refine (reach_ok (i:=i) (nn := x.granted + 1) (n:=n) (y := { x with state := 4 }) (P := setProp P n { x with state := 4 }) 5 (R,1,0) hR HRk.out HP3.out hok3 HI4.out HLE.out HCLS4.out HCL.out).mono ?_
  rintro e w4 ⟨ov,tag4,rfl,hrow,hF4⟩
  have HF4 := Lib.hid hF4
  have HROW := Lib.hid hrow
  clear hF4 hrow)
 go_ret2
 rw [HMM.out]
 have e2 : eachL (setProp P n { x with state := 4 }) 5 n (({ x with state := 4 } : PropM).claims.take (x.granted + 1)) = (x.claims.take (x.granted + 1)).map (fun c => ⟨5,P.no,P.site c.item,n,c.item,0⟩) := rfl
 have hrow := HROW.out
 rw [e2] at hrow
 refine ⟨_,tag4,rfl,?_,(HP3.out.fr HF4.out (fun r i e => by injection e with e _; exact HRk.out e.symm)).congr rfl rfl rfl rfl,(HF3.out.mono (fun t h => .inl (by rw [h]))).trans (HF4.out.mono (fun t h => .inr (by rw [h])))⟩
 show Row _ _ _ _ _ _ (P.out ++ _).length (posts (P.out ++ _))
 rw [HO.out,List.nil_append,List.length_map,List.length_take,Nat.min_eq_left hglt]
 exact hrow
end
end Go.Proofs.YtclkokkppgchfaaGreat
namespace Go.Ng
open Go Go.RowKit
section
variable {P : Program} {ops : Array Oper} {Q : Exit → Act → World → Prop} {tag : Nat → Tag} {E sz : Nat} {w : World}
theorem append_none_any_run (t : Tag) (hok : TagOk tag w) (T ty : TypeId) (i : TypeInfo) (z : Value) (bytes : Nat) (hT : P.underlying T = some (.slice E)) (hi : P.info? E = some i) (hz : i.zero = some z)
  (hsize : i.size = sz) (hby : i.bytes = bytes) (hzs : z.cells.size = sz) (hsz : 0 < sz) {x : Value} {m : Nat} {news : List Value} (hx : Rd sz w x m news) (h63 : m ≤ maxLen) (hbytes : m * bytes ≤ 140737488355328) :
  ∃ A cap w' tag',(Builtin.append_ #[T,T] ty #[.slice none 0 0,x]).run P w = .ok (.slice A m cap) w' ∧ Row tag' t E sz w' (.slice A m cap) m news ∧ Fr (fun _ => False) tag tag' w w' ∧ (m = 0 → A = none ∧ cap = 0) := by
 rcases Nat.eq_zero_or_pos m with rfl | hm
 ·obtain rfl : news = [] := List.eq_nil_of_length_eq_zero (by have := hx.len; omega)
  obtain ⟨XA,c,rfl,_,_⟩ := hx.slice
  exact ⟨none,0,w,tag,run_append_zero (P := P) T ty E i hT hi none 0 0 (Nat.le_refl _) XA c,Row.nil _ _ _ _ _,Fr.refl hok,fun _ => ⟨rfl,rfl⟩⟩
 ·rcases hx.form with ⟨rfl,rfl⟩ | ⟨b,off,cap,rfl,h2,h3,h4⟩
  ·omega
  ·obtain ⟨g,cap',w',tag',hr,h5,h6,_⟩ := append_bare_run (P := P) t none hok T ty i z bytes hT hi hz hsize hby hzs hsz ⟨b,off,none⟩ m cap news hx.len (fun j u hu => by rw [add_lit]; exact h4 j u hu) hx.one hm h63 hbytes
   exact ⟨_,cap',w',tag',hr,h5,h6,fun e => by omega⟩
theorem append_none_any_arm (t : Tag) {oi : Oper} {N : Option Tmp} {a : Act} {K : Act → World → Prop} (hw : Region.wanted oi (yielded ops a.tmps) = true) (hN : oi.dst = N) (s x : Operand) (T : TypeId)
  (hop : oi.op = .call { callee := .builtin .append,args := #[s,x],argTypes := #[T,T] }) (hs : a.eval s = .slice none 0 0) {xv : Value} (hx : a.eval x = xv)
  (hok : TagOk tag w) {i : TypeInfo} {z : Value} {bytes : Nat} (hT : P.underlying T = some (.slice E)) (hi : P.info? E = some i) (hz : i.zero = some z)
  (hsize : i.size = sz) (hby : i.bytes = bytes) (hzs : z.cells.size = sz) (hsz : 0 < sz) {m : Nat} {news : List Value} (hxr : Rd sz w xv m news) (h63 : m ≤ maxLen) (hbytes : m * bytes ≤ 140737488355328)
  (hk : ∀ A cap w' tag',Row tag' t E sz w' (.slice A m cap) m news → Fr (fun _ => False) tag tag' w w' → (m = 0 → A = none ∧ cap = 0) → K (a.put N (.slice A m cap)) w') :
  if Region.wanted oi (yielded ops a.tmps) = true then Oper.wp P oi a w K Q else K (a.put N undef) w := by
 rw [if_pos hw]
 subst hN
 obtain ⟨A,cap,w',tag',hr,h2,h3,h4⟩ := append_none_any_run (P := P) t hok T oi.type i z bytes hT hi hz hsize hby hzs hsz hxr h63 hbytes
 unfold Oper.wp execOp
 simp only [hop,resolve,invoke,builtin,Sem.run_bind,Sem.run_pure,Result.andThen_ok,List.map_toArray,List.map_cons,List.map_nil,hs,hx,hr]
 exact hk A cap w' tag' h2 h3 h4
theorem append_none_any_list (t : Tag) {rest : List Oper} {oi : Oper} {a : Act} (hg : oi.guard = none) (s x : Operand) (T : TypeId)
  (hop : oi.op = .call { callee := .builtin .append,args := #[s,x],argTypes := #[T,T] }) (hs : a.eval s = .slice none 0 0) {xv : Value} (hx : a.eval x = xv)
  (hok : TagOk tag w) {i : TypeInfo} {z : Value} {bytes : Nat} (hT : P.underlying T = some (.slice E)) (hi : P.info? E = some i) (hz : i.zero = some z)
  (hsize : i.size = sz) (hby : i.bytes = bytes) (hzs : z.cells.size = sz) (hsz : 0 < sz) {m : Nat} {news : List Value} (hxr : Rd sz w xv m news) (h63 : m ≤ maxLen) (hbytes : m * bytes ≤ 140737488355328)
  (hk : ∀ A cap w' tag',Row tag' t E sz w' (.slice A m cap) m news → Fr (fun _ => False) tag tag' w w' → (m = 0 → A = none ∧ cap = 0) → wpList P ops Q rest (a.put oi.dst (.slice A m cap)) w') :
  wpList P ops Q (oi :: rest) a w :=
 wpList_plain hg fun K hK => by
  have hw : Region.wanted oi (yielded ops a.tmps) = true := by simp [Region.wanted,hg]
  have := append_none_any_arm (P := P) (ops := ops) (Q := Q) (K := K) t hw rfl s x T hop hs hx hok hT hi hz hsize hby hzs hsz hxr h63 hbytes (fun A cap w' tag' h2 h3 h4 => hK _ _ (hk A cap w' tag' h2 h3 h4))
  rw [if_pos hw] at this
  exact this
end
end Go.Ng
namespace Go.Proofs.YtclkokkppgchfaaGreat
open Go.RowKit Go.Ng Go.Proofs.YtclkokkppgchfaaGreatW.PrintLast
def renum (tag : Nat → Tag) (K k : Nat) : Nat → Tag := fun b => if (tag b).1 = K then (k,(tag b).2) else tag b
section
variable {S : Tag → Prop} {tag tag' : Nat → Tag} {w w' : World} {K k : Nat}
theorem renum_at {b : Nat} {x : Nat × Int} (h : tag b = (K,x)) : renum tag K k b = (k,x) := by rw [renum,h,if_pos rfl]
theorem renum_ne {b : Nat} (h : (tag b).1 ≠ K) : renum tag K k b = tag b := if_neg h
theorem _root_.Go.Ng.Fr.renum (hF : Fr S tag tag' w w') (hK : K ≠ 0) (hno : ∀ b,b < w.heap.size → (tag b).1 ≠ K) : Fr S tag (renum tag' K k) w w' :=
 ⟨hF.os,hF.tape,hF.output,hF.size,fun b hb => by
  have h1 := hF.same b hb
  rw [renum_ne (by rw [h1]; exact hno b hb),h1],hF.block,fun b hb => by
  by_cases e : (tag' b).1 = K
  ·exact hF.dom b (by rw [e]; exact hK)
  ·rw [renum_ne e] at hb; exact hF.dom b hb⟩
theorem _root_.Go.Ng.Fr.dropN (hF : Fr (fun t => S t ∨ t.1 = K) tag tag' w w') (hno : ∀ b,b < w.heap.size → (tag b).1 ≠ K) : Fr S tag tag' w w' :=
 ⟨hF.os,hF.tape,hF.output,hF.size,hF.same,fun b hb hs => hF.block b hb (fun h => h.elim hs (hno b hb)),hF.dom⟩
theorem _root_.Go.Ng.Row.renum {E sz n : Nat} {v : Value} {ks : List Value} {x : Nat × Int} (h : Row tag (K,x) E sz w v n ks) (k : Nat) : Row (renum tag K k) (k,x) E sz w v n ks := by
 rcases h with ⟨h,ht⟩ | h
 ·exact .inl ⟨h,fun b hb => renum_at (ht b hb)⟩
 ·exact .inr h
theorem _root_.Go.Ng.Row.renum_ne {E sz n : Nat} {v : Value} {ks : List Value} {t : Tag} (h : Row tag t E sz w v n ks) (k : Nat) (ht : t.1 ≠ K) : Row (renum tag K k) t E sz w v n ks :=
 h.keep fun b hb hbt => ⟨by rw [YtclkokkppgchfaaGreat.renum_ne (by rw [hbt]; exact ht),hbt],rfl⟩
theorem _root_.Go.Ng.ORow.renum {sz n : Nat} {v : Value} {ks : List Value} {x : Nat × Int} (h : ORow tag (K,x) sz w v n ks) (k : Nat) : ORow (renum tag K k) (k,x) sz w v n ks := by
 refine ⟨h.len,h.one,?_⟩
 rcases h.form with h1 | ⟨b,off,cap,h1,h2,h3⟩
 ·exact .inl h1
 ·exact .inr ⟨b,off,cap,h1,renum_at h2,h3⟩
theorem Owned.renum_ne {v : Value} {t : Tag} (h : Owned tag w t v) (k : Nat) (ht : t.1 ≠ K) : Owned (renum tag K k) w t v := fun b off m cap hv => by
 obtain ⟨h1,h2⟩ := h b off m cap hv
 exact ⟨by rw [YtclkokkppgchfaaGreat.renum_ne (by rw [h1]; exact ht),h1],h2⟩
theorem RItemO.renum {j : Nat} {o : Option ItemM} {x : RIt} (h : RItemO tag K w j o x) (k : Nat) : RItemO (renum tag K k) k w j o x := by
 cases o with
 | none => exact h
 | some it =>
  have h : RItem tag K w j it x := h
  exact ⟨h.ver,h.hold,h.wr.renum k,h.thr.renum k⟩
theorem tag_max1 (tag : Nat → Tag) : ∀ n : Nat,∃ M : Nat,∀ b,b < n → (tag b).1 < M
 | 0 => ⟨0,fun b hb => by omega⟩
 | n + 1 => by
  obtain ⟨M,h⟩ := tag_max1 tag n
  refine ⟨max M ((tag n).1 + 1),fun b hb => ?_⟩
  by_cases e : b = n
  ·subst e; omega
  ·have := h b (by omega); omega
end
theorem rprs_one {tag : Nat → Tag} {w : World} {k : Nat} {P : PlaceM} {prs : List RPr} (hl : prs.length = P.props.length) (h8 : ∀ (i : Nat) n y x,P.props[i]? = some (n,y) → prs[i]? = some x → RProp tag k w i n y x) : ∀ u ∈ prs.flatMap RPr.cells,u.oneCell' = true := by
 intro u hu
 rw [List.mem_flatMap] at hu
 obtain ⟨x,hx,hu⟩ := hu
 obtain ⟨i,hi⟩ := List.getElem?_of_mem hx
 have hil := (List.getElem?_eq_some_iff.1 hi).1
 obtain ⟨⟨n,y⟩,hy⟩ : ∃ c,P.props[i]? = some c := ⟨_,List.getElem?_eq_getElem (by omega)⟩
 obtain ⟨A,cap,hv,_,_⟩ := (h8 i n y x hy hi).cr.slice
 simp only [RPr.cells,List.mem_cons,List.not_mem_nil,or_false] at hu
 rcases hu with rfl | rfl | rfl | rfl
 ·rfl
 ·rw [hv]; rfl
 ·rfl
 ·rfl
structure CopyS (tag : Nat → Tag) (w : World) (K : Nat) (P : PlaceM) (av : Value) (b : Nat) (n : Nat) (tagr : Nat → Tag) (iv2 : Value) (wr : World) : Prop where
 hp : wr.heap[b]? = some (.cells #[.int .i64 P.no,av,iv2,.slice none 0 0] 127 (0,0))
 tb : tagr b = (K,1,0)
 its : ∃ its2 : List RIt,its2.length = n ∧ Row tagr (K,3,0) 91 4 wr iv2 n (its2.flatMap RIt.cells) ∧ ∀ (j : Nat) o x,P.items[j]? = some o → its2[j]? = some x → RItemO tagr K wr j o x
 fr : Fr (fun t => t.1 = K) tag tagr w wr
section
variable {S : Tag → Prop} {tag tag' : Nat → Tag} {w w' : World} {k p R : Nat} {P P' : PlaceM}
theorem RItemO.reads {j : Nat} {o : Option ItemM} {x : RIt} (h : RItemO tag k w j o x) (hI : ∀ it,o = some it → ItOk it) :
  ∃ (ql : List Asker) (tl : List Int),Rd 2 w x.wv ql.length (askers ql) ∧ Rd 1 w x.tv tl.length (ints tl) ∧ ql.length ≤ 100000 ∧ tl.length ≤ 100000 ∧
   ∀ (K : Nat) (tagr : Nat → Tag) (wr : World) (wv tv : Value),ORow tagr (K,6,(j : Int)) 2 wr wv ql.length (askers ql) → Row tagr (K,7,(j : Int)) 3 1 wr tv tl.length (ints tl) → (ql = [] → wv = .slice none 0 0) → (tl = [] → tv = .slice none 0 0) → RItemO tagr K wr j o ⟨x.ver,x.hold,wv,tv⟩ := by
 cases o with
 | none =>
  have h : x = ⟨0,-1,.slice none 0 0,.slice none 0 0⟩ := h
  subst h
  refine ⟨[],[],(Row.nil tag (k,0,0) 140 2 w).rd (by simp),(Row.nil tag (k,0,0) 3 1 w).rd (by simp),by simp,by simp,?_⟩
  intro K tagr wr wv tv h1 h2 h3 h4
  show _ = _
  rw [h3 rfl,h4 rfl]
 | some it =>
  have h : RItem tag k w j it x := h
  have hi := hI it rfl
  refine ⟨it.queue,it.through,h.wr.rd,h.thr.rd (ints_one _),hi.ql,hi.tl,?_⟩
  intro K tagr wr wv tv h1 h2 _ _
  exact ⟨h.ver,h.hold,h1,h2⟩
set_option maxRecDepth 100000 in
set_option maxHeartbeats 12800000 in
theorem rcopied_ok (h : RPRep tag k w p P) (hok : TagOk tag w) (hW : RWell P) (hpl : P.props.length ≤ 10000) :
  Calls Tryz.prog 69 #[.pointer (some ⟨p,0,none⟩)] w fun e w' => ∃ b tag',e = .returned (.pointer (some ⟨b,0,none⟩)) ∧ RPRep tag' k w' b P ∧ Fr (fun _ => False) tag tag' w w' := by
 obtain ⟨j173,hj173,hq0,hq1,hq2⟩ := info_parts Tryz.info140
 obtain ⟨j3,hj3,hy0,hy1,hy2⟩ := info_parts Tryz.info3
 obtain ⟨j128,hj128,hz0,hz1,hz2⟩ := info_parts Tryz.info91
 obtain ⟨j140,hj140,hx0,hx1,hx2⟩ := info_parts Tryz.info134
 obtain ⟨M,hM⟩ := tag_max1 tag w.heap.size
 obtain ⟨Kn,hKM⟩ : ∃ Kn,Kn = M + k + 1 := ⟨_,rfl⟩
 have HNO : Hid (∀ b,b < w.heap.size → (tag b).1 ≠ Kn) := Lib.hid (fun b hb => by have := hM b hb; omega)
 have hK0 : Kn ≠ 0 := by omega
 have hKk : Kn ≠ k := by omega
 clear hM hKM
 have hil0 : P.items.length ≤ 64 := by rw [hW.wf.items]; exact hW.wf.sites
 obtain ⟨av,iv,pv,h1,h2,⟨its,h3,h4,h5⟩,prs,h6,h7,h8⟩ := h.cells
 obtain ⟨IA,icap,rfl,q1,q2⟩ := h4.form
 obtain ⟨PA,pcap,rfl,q3,q4⟩ := h7.form
 obtain ⟨SA,scap,rfl,q5,q6⟩ := h2.form
 unfold maxLen at q2 q4 q6
 have c0 : w.cell? ⟨p,0,none⟩ = some (.int .i64 P.no) := cell_of h1 0
 have c1 : w.cell? ⟨p,1,none⟩ = some (.slice SA P.sites.length scap) := cell_of h1 1
 have hpw := lt_of_heap h1
 have hk0 := h.k0
 have hits : its.length ≤ 64 := by omega
 have hprs : prs.length ≤ 10000 := by omega
 have H := Lib.hid h
 have H1 := Lib.hid h1
 have H2 := Lib.hid h2
 have H3 := Lib.hid h3
 have H4 := Lib.hid h4
 have H5 := Lib.hid h5
 have H6 := Lib.hid h6
 have H7 := Lib.hid h7
 have H8 := Lib.hid h8
 have HW := Lib.hid hW
 clear h h1 h2 h3 h4 h5 h6 h7 h8 hW
 go_enter Tryz.func69,Tryz.ntmps69
 go_wp2_with fail
 refine start_ (n:=11) (S:=fun w' => w'.cell? ⟨p,0,none⟩ = some (.int .i64 P.no) ∧ w'.cell? ⟨p,1,none⟩ = some (.slice SA P.sites.length scap)) (ds := []) #[f_,f_,f_,f_,f_,f_,f_,f_,f_,f_,f_] (by kernel_rfl) rfl rfl ⟨c0,c1⟩ (fun hHeld => ?_)
 refine pure_ (i:=0) (N:=some 8) (v:=?_) (a':=?_) #[t_,f_,f_,f_,f_,f_,f_,f_,f_,f_,f_] rfl rfl (by kernel_rfl) (fun _ _ _ h => h) (Or.inl ⟨by rfl,?_⟩) ?_ ?_
 rotate_left;intro w';go_simp;with_reducible rfl;rotate_left;simp only [Act.put,sA_,sB_,sC_,i64_w,i32_w];rfl
 refine pure_ (i:=1) (N:=some 9) (v:=?_) (a':=?_) #[t_,t_,f_,f_,f_,f_,f_,f_,f_,f_,f_] rfl rfl (by kernel_rfl) (fun _ _ _ h => h) (Or.inl ⟨by rfl,?_⟩) ?_ ?_
 rotate_left;intro w';go_simp;with_reducible rfl;rotate_left;simp only [Act.put,sA_,sB_,sC_,i64_w,i32_w];rfl
 refine pure_ (i:=2) (N:=some 10) (v:=?_) (a':=?_) #[t_,t_,t_,f_,f_,f_,f_,f_,f_,f_,f_] rfl rfl (by kernel_rfl) (fun _ _ _ h => h) (Or.inl ⟨by rfl,?_⟩) ?_ ?_
 rotate_left;intro w';go_simp;with_reducible rfl;rotate_left;simp only [Act.put,sA_,sB_,sC_,i64_w,i32_w];rfl
 refine pure_ (i:=4) (N:=some 12) (v:=?_) (a':=?_) #[t_,t_,t_,f_,t_,f_,f_,f_,f_,f_,f_] rfl rfl (by kernel_rfl) (fun _ _ _ h => h) (Or.inl ⟨by rfl,?_⟩) ?_ ?_
 rotate_left;intro w';go_simp;with_reducible rfl;rotate_left;simp only [Act.put,sA_,sB_,sC_,i64_w,i32_w];rfl
 refine pure_ (i:=5) (N:=some 13) (v:=?_) (a':=?_) #[t_,t_,t_,f_,t_,t_,f_,f_,f_,f_,f_] rfl rfl (by kernel_rfl) (fun _ _ _ h => h) (Or.inl ⟨by rfl,?_⟩) ?_ ?_
 rotate_left;intro w';go_simp;with_reducible rfl;rotate_left;simp only [Act.put,sA_,sB_,sC_,i64_w,i32_w];rfl
 refine pure_ (i:=6) (N:=some 14) (v:=?_) (a':=?_) #[t_,t_,t_,f_,t_,t_,t_,f_,f_,f_,f_] rfl rfl (by kernel_rfl) (fun _ _ _ h => h) (Or.inl ⟨by rfl,?_⟩) ?_ ?_
 rotate_left;intro w';go_simp;with_reducible rfl;rotate_left;simp only [Act.put,sA_,sB_,sC_,i64_w,i32_w];rfl
 refine take_ (i:=3) (N:=some 11) (v:=?_) (a':=?_) #[t_,t_,t_,t_,t_,t_,t_,f_,f_,f_,f_] rfl rfl (by kernel_rfl) (fun _ _ _ h => h) (Or.inl ⟨by rfl,?_⟩) hHeld ?_ ?_
 rotate_left;rintro w' ⟨s0,s1⟩;go_simp;with_reducible rfl;rotate_left;simp only [Act.put,sA_,sB_,sC_,i64_w,i32_w];rfl
 refine take_ (i:=7) (N:=some 15) (v:=?_) (a':=?_) #[t_,t_,t_,t_,t_,t_,t_,t_,f_,f_,f_] rfl rfl (by kernel_rfl) (fun _ _ _ h => h) (Or.inl ⟨by rfl,?_⟩) hHeld ?_ ?_
 rotate_left;rintro w' ⟨s0,s1⟩;go_simp;with_reducible rfl;rotate_left;simp only [Act.put,sA_,sB_,sC_,i64_w,i32_w];rfl
 refine pure_ (i:=8) (N:=some 16) (v:=?_) (a':=?_) #[t_,t_,t_,t_,t_,t_,t_,t_,t_,f_,f_] rfl rfl (by kernel_rfl) (fun _ _ _ h => h) (Or.inl ⟨by rfl,?_⟩) ?_ ?_
 rotate_left;intro w';go_simp;with_reducible rfl;rotate_left;simp only [Act.put,sA_,sB_,sC_,i64_w,i32_w];rfl
 refine one_ (i:=9) (N:=some 17) #[t_,t_,t_,t_,t_,t_,t_,t_,t_,t_,f_] rfl rfl (by kernel_rfl) (by decide) (fun K hK => ?_)
 refine value_ (w1:=?_) (v:=?_) (by rfl) rfl ?_ ?_
 rotate_left 2
 ·go_simp
  constructor
  ·rfl
  ·rfl
 refine hK.out _ _ ⟨(ca hHeld.1 _),(ca hHeld.2 _)⟩ (fun hHeld => ?_)
 clear hK K
 refine norm_ (a':=?_) ?_ ?_
 rotate_left
 ·show Act.put _ (some 17) _ = _
  simp only [Act.put,sA_,sB_,sC_,i64_w,i32_w]
  rfl
 refine pure_ (i:=10) (N:=some 3) (v:=?_) (a':=?_) #[t_,t_,t_,t_,t_,t_,t_,t_,t_,t_,t_] rfl rfl (by kernel_rfl) (fun _ _ _ h => h) (Or.inl ⟨by rfl,?_⟩) ?_ ?_
 rotate_left;intro w';go_simp;with_reducible rfl;rotate_left;simp only [Act.put,sA_,sB_,sC_,i64_w,i32_w];rfl
 refine done_ (by kernel_rfl) ?_
 clear hHeld
 go_upto_region 2 with fail
 obtain ⟨w1,hw1⟩ : ∃ x,x = (w.alloc (.cells #[.int .i64 P.no,.slice SA P.sites.length scap,.slice none 0 0,.slice none 0 0] 127)).drew := ⟨_,rfl⟩
 rw [← hw1]
 obtain ⟨b,hb⟩ : ∃ x,x = w.heap.size := ⟨_,rfl⟩
 rw [← hb]
 have hwb : w.heap.size ≤ b := by omega
 obtain ⟨tag1,htag1⟩ : ∃ x,x = give tag b (Kn,1,0) := ⟨_,rfl⟩
 have HCS : Hid (CopyS tag w Kn P (.slice SA P.sites.length scap) b 0 tag1 (.slice none 0 0) w1) := Lib.hid {
  hp := by rw [hw1,hb]; exact heap_alloc_at w _
  tb := by rw [htag1]; exact give_at _ _ _
  its := ⟨[],rfl,Row.nil _ _ _ _ _,fun j o x _ hx => by simp at hx⟩
  fr := by rw [hw1,htag1,hb]; exact (Fr.give_alloc hok _ _).dr }
 clear hw1 htag1 hb c0 c1
 go_wp2_with fail
 go_loopw [4] (fun jv wr => ∃ (n : Nat),n ≤ its.length ∧ jv = .int .i64 n ∧ ∃ (tagr : Nat → Tag) (iv2 : Value),Hid (CopyS tag w Kn P (.slice SA P.sites.length scap) b n tagr iv2 wr)) (fun jv _ => its.length - (intOf jv).toNat)
 case atStart => exact ⟨0,Nat.zero_le _,rfl,tag1,_,HCS⟩
 case round =>
  obtain ⟨n,hn,rfl,tagr,iv2,HS⟩ := hrel
  have hnk : ∀ r i,¬ ((k,r,i) : Tag).1 = Kn := fun r i e => hKk e.symm
  have HPR := Lib.hid (H.out.fr HS.out.fr (fun r i => hnk r i))
  have hp2 := HS.out.fr.heap H1.out (by rw [H.out.ptr]; exact hnk _ _)
  have c2 : wr.cell? ⟨p,2,none⟩ = some (.slice IA its.length icap) := cell_of hp2 2
  have c3 : wr.cell? ⟨p,3,none⟩ = some (.slice PA prs.length pcap) := cell_of hp2 3
  have hpl2 := lt_of_heap hp2
  have hokr := HS.out.fr.dom
  by_cases hlt : n < its.length
  ·obtain ⟨⟨xv,xh,xw,xt⟩,hx⟩ : ∃ c,its[n]? = some c := ⟨_,List.getElem?_eq_getElem hlt⟩
   obtain ⟨oi,ho⟩ : ∃ c,P.items[n]? = some c := ⟨_,List.getElem?_eq_getElem (by have := H3.out; omega)⟩
   have hri := (H5.out n oi _ ho hx).fr HS.out.fr (fun r i => hnk r i)
   obtain ⟨ql,tl,hq,ht,hql,htl,hre⟩ := hri.reads (fun it e => HW.out.it n it (by rw [ho,e]))
   simp only at hq ht hre
   obtain ⟨ib,rfl,hit,his,hce⟩ := Row.elem (enc := RIt.cells) (H4.out.fr HS.out.fr (hnk _ _)) (fun _ => rfl) (by decide) hx
   obtain ⟨WA,wcap,rfl,s1,s2⟩ := hq.slice
   obtain ⟨TA,tcap,rfl,t1,t2⟩ := ht.slice
   unfold maxLen at s2 t2
   have e0 : wr.cell? ⟨ib,n * 4,none⟩ = some (.int .i64 xv) := hce 0 _ rfl
   have e1 : wr.cell? ⟨ib,n * 4 + 1,none⟩ = some (.int .i64 xh) := hce 1 _ rfl
   have e2 : wr.cell? ⟨ib,n * 4 + 2,none⟩ = some (.slice WA ql.length wcap) := hce 2 _ rfl
   have e3 : wr.cell? ⟨ib,n * 4 + 3,none⟩ = some (.slice TA tl.length tcap) := hce 3 _ rfl
   have i1 : (0 : Int) ≤ (n : Int) := by omega
   have i2 : (n : Int) < (its.length : Int) := by omega
   have HQ := Lib.hid hq
   have HT := Lib.hid ht
   have HRE := Lib.hid hre
   have HOI := Lib.hid ho
   clear hx ho hri hq ht hre hce hit his
   go_upto_region 8 with fail
   obtain ⟨w2,hw2⟩ : ∃ x,x = wr.alloc (.cells #[.int .i64 xv,.int .i64 xh,.slice WA ql.length wcap,.slice TA tl.length tcap] 91) := ⟨_,rfl⟩
   rw [← hw2]
   obtain ⟨b5,hb5⟩ : ∃ x,x = wr.heap.size := ⟨_,rfl⟩
   rw [← hb5]
   have hA2 : Fr (fun _ => False) tagr tagr wr w2 := by rw [hw2]; exact Fr.alloc hokr _
   have HX2 : Hid (w2.heap[b5]? = some (.cells #[.int .i64 xv,.int .i64 xh,.slice WA ql.length wcap,.slice TA tl.length tcap] 91 (0,0))) := Lib.hid (by rw [hw2,hb5]; exact heap_alloc_at _ _)
   have HTX : Hid ((tagr b5).1 = 0) := Lib.hid (by rw [hb5]; exact hokr.new)
   have HA2 := Lib.hid hA2
   have HWR : Hid (wr.heap.size ≤ b5) := Lib.hid (by omega)
   have HWB : Hid (w.heap.size ≤ b5) := Lib.hid (by rw [hb5]; exact HS.out.fr.size)
   have hbb5 : b ≠ b5 := by have := lt_of_heap HS.out.hp; omega
   clear hw2 hb5 hA2 c2 c3 e0 e1 e2 e3 hpl2 hp2
   have x2 : w2.cell? ⟨b5,2,none⟩ = some (.slice WA ql.length wcap) := cell_of HX2.out 2
   go_upto_region 9 with (
    at_builtin
    refine append_none_any_list (Kn,6,(n : Int)) rfl (.tmp 34) (.tmp 36) 89 rfl (by rfl) (by rfl) HA2.out.dom Tryz.underlying89 hj173 hq0 hq1 hq2 rfl (by decide) (HQ.out.frF HA2.out) (by unfold maxLen; omega) (by omega) ?_
    intro A3 cap3 w3 tag3 hrow hfr hnil
    have HX3 := Lib.hid (hfr.heap HX2.out (fun x => x))
    have v2 : w3.cell? ⟨b5,2,none⟩ = some (.slice WA ql.length wcap) := cell_of HX3.out 2
    have vz2 := free_of HX3.out 2
    have HFR3 := Lib.hid hfr
    have HROW3 := Lib.hid hrow
    have HN3 := Lib.hid hnil
    clear hrow hfr hnil)
   obtain ⟨w4,hw4⟩ : ∃ x,x = w3.setCell ⟨b5,2,none⟩ (.slice A3 ql.length cap3) := ⟨_,rfl⟩
   rw [← hw4]
   have HTX3 : Hid ((tag3 b5).1 = 0) := Lib.hid (by rw [HFR3.out.same b5 (lt_of_heap HX2.out)]; exact HTX.out)
   have HL4 : Hid (Fr (fun t => t.1 = 0) tag3 tag3 w3 w4) := Lib.hid (by rw [hw4]; exact Fr.setCell HFR3.out.dom (a := ⟨b5,2,none⟩) HTX3.out _)
   have HX4 : Hid (w4.heap[b5]? = some (.cells #[.int .i64 xv,.int .i64 xh,.slice A3 ql.length cap3,.slice TA tl.length tcap] 91 (0,0))) := Lib.hid (by rw [hw4,Go.Ng.heap_setCell_same HX3.out 2 _]; rfl)
   have HD4 : Hid (Fr (fun _ => False) tagr tag3 wr w4) := Lib.hid (by rw [hw4]; exact (HA2.out.trans HFR3.out).scn HWR.out _ _)
   have HG4 : Hid (Fr (fun t => t.1 = Kn) tag tag3 w w4) := Lib.hid (by rw [hw4]; exact ((HS.out.fr.trans HA2.out.up).trans HFR3.out.up).scn HWB.out _ _)
   have HH4 : Hid (w4.heap[b]? = some (.cells #[.int .i64 P.no,.slice SA P.sites.length scap,iv2,.slice none 0 0] 127 (0,0))) := Lib.hid (by rw [hw4]; exact (Go.Ng.heap_setCell_ne hbb5 _ _).trans (HFR3.out.heap (HA2.out.heap HS.out.hp (fun x => x)) (fun x => x)))
   have HTB4 : Hid (tag3 b = (Kn,1,0)) := Lib.hid (by rw [HFR3.out.same b (lt_of_heap (HA2.out.heap HS.out.hp (fun x => x)))]; exact HS.out.tb)
   have HC4 : Hid (Fr (fun t => t.1 = 0) tagr tag3 wr w4) := Lib.hid ((HA2.out.up.trans HFR3.out.up).trans HL4.out)
   have HR4 := Lib.hid (HROW3.out.fr HL4.out hK0)
   have hok4 := HG4.out.dom
   clear hw4 x2 v2 vz2
   have x3 : w4.cell? ⟨b5,3,none⟩ = some (.slice TA tl.length tcap) := cell_of HX4.out 3
   have HTT : Hid (Rd 1 w4 (.slice TA tl.length tcap) tl.length (ints tl)) := Lib.hid (HT.out.frF HD4.out)
   go_upto_region 10 with (
    at_builtin
    refine append_none_any_list (Kn,7,(n : Int)) rfl (.tmp 39) (.tmp 41) 22 rfl (by rfl) (by rfl) hok4 Tryz.underlying22 hj3 hy0 hy1 hy2 rfl (by decide) HTT.out (by unfold maxLen; omega) (by omega) ?_
    intro A5 cap5 w5 tag5 hrow hfr hnil
    have HX5 := Lib.hid (hfr.heap HX4.out (fun x => x))
    have v3 : w5.cell? ⟨b5,3,none⟩ = some (.slice TA tl.length tcap) := cell_of HX5.out 3
    have vz3 := free_of HX5.out 3
    have HFR5 := Lib.hid hfr
    have HROW5 := Lib.hid hrow
    have HN5 := Lib.hid hnil
    clear hrow hfr hnil)
   obtain ⟨w6,hw6⟩ : ∃ x,x = w5.setCell ⟨b5,3,none⟩ (.slice A5 tl.length cap5) := ⟨_,rfl⟩
   rw [← hw6]
   have HTX5 : Hid ((tag5 b5).1 = 0) := Lib.hid (by rw [HFR5.out.same b5 (lt_of_heap HX4.out)]; exact HTX3.out)
   have HL6 : Hid (Fr (fun t => t.1 = 0) tag5 tag5 w5 w6) := Lib.hid (by rw [hw6]; exact Fr.setCell HFR5.out.dom (a := ⟨b5,3,none⟩) HTX5.out _)
   have HX6 : Hid (w6.heap[b5]? = some (.cells #[.int .i64 xv,.int .i64 xh,.slice A3 ql.length cap3,.slice A5 tl.length cap5] 91 (0,0))) := Lib.hid (by rw [hw6,Go.Ng.heap_setCell_same HX5.out 3 _]; rfl)
   have HG6 : Hid (Fr (fun t => t.1 = Kn) tag tag5 w w6) := Lib.hid (by rw [hw6]; exact (HG4.out.trans HFR5.out.up).scn HWB.out _ _)
   have HH6 : Hid (w6.heap[b]? = some (.cells #[.int .i64 P.no,.slice SA P.sites.length scap,iv2,.slice none 0 0] 127 (0,0))) := Lib.hid (by rw [hw6]; exact (Go.Ng.heap_setCell_ne hbb5 _ _).trans (HFR5.out.heap HH4.out (fun x => x)))
   have HTB6 : Hid (tag5 b = (Kn,1,0)) := Lib.hid (by rw [HFR5.out.same b (lt_of_heap HH4.out)]; exact HTB4.out)
   have HC6 : Hid (Fr (fun t => t.1 = 0) tagr tag5 wr w6) := Lib.hid ((HC4.out.trans HFR5.out.up).trans HL6.out)
   have HR6 := Lib.hid ((HR4.out.fr HFR5.out (fun x => x)).fr HL6.out hK0)
   have HT6 := Lib.hid (HROW5.out.fr HL6.out hK0)
   have hok6 := HG6.out.dom
   clear hw6 x3 v3 vz3
   obtain ⟨its2,hi2,hir,hie⟩ := HS.out.its
   obtain ⟨IA2,icap2,rfl,_,_⟩ := hir.form
   have HIR := Lib.hid (hir.fr HC6.out hK0)
   have HIE : Hid (∀ (j : Nat) o x,P.items[j]? = some o → its2[j]? = some x → RItemO tag5 Kn w6 j o x) := Lib.hid (fun j o x a b => (hie j o x a b).fr HC6.out (fun r i => hK0))
   have HI2 := Lib.hid hi2
   have hn64 : n ≤ 64 := by omega
   clear hi2 hir hie
   have y2 : w6.cell? ⟨b,2,none⟩ = some (.slice IA2 n icap2) := cell_of HH6.out 2
   have x0 : w6.cell? ⟨b5,0,none⟩ = some (.int .i64 xv) := cell_of HX6.out 0
   have x1 : w6.cell? ⟨b5,1,none⟩ = some (.int .i64 xh) := cell_of HX6.out 1
   have x2 : w6.cell? ⟨b5,2,none⟩ = some (.slice A3 ql.length cap3) := cell_of HX6.out 2
   have x3 : w6.cell? ⟨b5,3,none⟩ = some (.slice A5 tl.length cap5) := cell_of HX6.out 3
   refine start_ (n:=11) (S:=fun w' => w'.cell? ⟨b,2,none⟩ = some (.slice IA2 n icap2) ∧ w'.cell? ⟨b5,0,none⟩ = some (.int .i64 xv) ∧ w'.cell? ⟨b5,1,none⟩ = some (.int .i64 xh) ∧ w'.cell? ⟨b5,2,none⟩ = some (.slice A3 ql.length cap3) ∧ w'.cell? ⟨b5,3,none⟩ = some (.slice A5 tl.length cap5)) (ds := [10]) #[f_,f_,f_,f_,f_,f_,f_,f_,f_,f_,f_] (by kernel_rfl) rfl rfl ⟨y2,x0,x1,x2,x3⟩ (fun hHeld => ?_)
   refine pure_ (i:=0) (N:=some 44) (v:=?_) (a':=?_) #[t_,f_,f_,f_,f_,f_,f_,f_,f_,f_,f_] rfl rfl (by kernel_rfl) (fun _ _ _ h => h) (Or.inl ⟨by rfl,?_⟩) ?_ ?_
   rotate_left;intro w';go_simp;with_reducible rfl;rotate_left;simp only [Act.put,sA_,sB_,sC_,i64_w,i32_w];rfl
   refine pure_ (i:=1) (N:=some 45) (v:=?_) (a':=?_) #[t_,t_,f_,f_,f_,f_,f_,f_,f_,f_,f_] rfl rfl (by kernel_rfl) (fun _ _ _ h => h) (Or.inl ⟨by rfl,?_⟩) ?_ ?_
   rotate_left;intro w';go_simp;with_reducible rfl;rotate_left;simp only [Act.put,sA_,sB_,sC_,i64_w,i32_w];rfl
   refine pure_ (i:=2) (N:=some 46) (v:=?_) (a':=?_) #[t_,t_,t_,f_,f_,f_,f_,f_,f_,f_,f_] rfl rfl (by kernel_rfl) (fun _ _ _ h => h) (Or.inl ⟨by rfl,?_⟩) ?_ ?_
   rotate_left;intro w';go_simp;with_reducible rfl;rotate_left;simp only [Act.put,sA_,sB_,sC_,i64_w,i32_w];rfl
   refine pure_ (i:=3) (N:=some 47) (v:=?_) (a':=?_) #[t_,t_,t_,t_,f_,f_,f_,f_,f_,f_,f_] rfl rfl (by kernel_rfl) (fun _ _ _ h => h) (Or.inl ⟨by rfl,?_⟩) ?_ ?_
   rotate_left;intro w';go_simp;with_reducible rfl;rotate_left;simp only [Act.put,sA_,sB_,sC_,i64_w,i32_w];rfl
   refine take_ (i:=4) (N:=some 48) (v:=?_) (a':=?_) #[t_,t_,t_,t_,t_,f_,f_,f_,f_,f_,f_] rfl rfl (by kernel_rfl) (fun _ _ _ h => h) (Or.inl ⟨by rfl,?_⟩) hHeld ?_ ?_
   rotate_left;rintro w' ⟨s0,s1,s2,s3,s4⟩;go_simp;with_reducible rfl;rotate_left;simp only [Act.put,sA_,sB_,sC_,i64_w,i32_w];rfl
   refine take_ (i:=5) (N:=some 49) (v:=?_) (a':=?_) #[t_,t_,t_,t_,t_,t_,f_,f_,f_,f_,f_] rfl rfl (by kernel_rfl) (fun _ _ _ h => h) (Or.inl ⟨by rfl,?_⟩) hHeld ?_ ?_
   rotate_left;rintro w' ⟨s0,s1,s2,s3,s4⟩;go_simp;with_reducible rfl;rotate_left;simp only [Act.put,sA_,sB_,sC_,i64_w,i32_w];rfl
   refine one_ (i:=6) (N:=some 50) #[t_,t_,t_,t_,t_,t_,t_,f_,f_,f_,f_] rfl rfl (by kernel_rfl) (by decide) (fun K hK => ?_)
   refine value_ (w1:=?_) (v:=?_) (by rfl) rfl ?_ ?_
   rotate_left 2
   ·go_simp
    constructor
    ·rfl
    ·rfl
   refine hK.out _ _ ⟨(ca hHeld.1 _),(ca hHeld.2.1 _),(ca hHeld.2.2.1 _),(ca hHeld.2.2.2.1 _),(ca hHeld.2.2.2.2 _)⟩ (fun hHeld => ?_)
   clear hK K
   refine norm_ (a':=?_) ?_ ?_
   rotate_left
   ·show Act.put _ (some 50) _ = _
    simp only [Act.put,sA_,sB_,sC_,i64_w,i32_w]
    rfl
   refine one_ (i:=7) (N:=some 51) #[t_,t_,t_,t_,t_,t_,t_,t_,f_,f_,f_] rfl rfl (by kernel_rfl) (by decide) (fun K hK => ?_)
   refine append_arm (by rfl) rfl (.tmp 48) (.tmp 50) 124 rfl (by rfl) (by rfl) ((HIR.out.alloc _).drew) ((hok6.alloc _).drew) Tryz.underlying124 hj128 hz0 hz1 hz2 rfl (by decide) [.int .i64 xv,.int .i64 xh,.slice A3 ql.length cap3,.slice A5 tl.length cap5] rfl (news_at (heap_alloc_at _ _)) (by simp [Value.oneCell']) (by decide) (by unfold maxLen; omega) (by omega) ?_
   intro g7 cap7 w7 tag7 hrow hfr
   have HX7 := Lib.hid (hfr.heap (heap_alloc_lt HX6.out _) (t0_ne HTX5.out hK0))
   have HH7 := Lib.hid (hfr.heap (heap_alloc_lt HH6.out _) (by rw [HTB6.out]; simp))
   have d2 : w7.cell? ⟨b,2,none⟩ = some (.slice IA2 n icap2) := cell_of HH7.out 2
   have dz2 := free_of HH7.out 2
   have HFR7 := Lib.hid hfr
   have HROW7 := Lib.hid hrow
   clear hrow hfr
   refine hK.out _ _ ⟨d2,(cell_of HX7.out 0),(cell_of HX7.out 1),(cell_of HX7.out 2),(cell_of HX7.out 3)⟩ (fun hHeld => ?_)
   clear hK K
   refine norm_ (a':=?_) ?_ ?_
   rotate_left
   ·show Act.put _ (some 51) _ = _
    simp only [Act.put,sA_,sB_,sC_,i64_w,i32_w]
    rfl
   refine pure_ (i:=8) (N:=some 52) (v:=?_) (a':=?_) #[t_,t_,t_,t_,t_,t_,t_,t_,t_,f_,f_] rfl rfl (by kernel_rfl) (fun _ _ _ h => h) (Or.inl ⟨by rfl,?_⟩) ?_ ?_
   rotate_left;intro w';go_simp;with_reducible rfl;rotate_left;simp only [Act.put,sA_,sB_,sC_,i64_w,i32_w];rfl
   refine pure_ (i:=9) (N:=some 53) (v:=?_) (a':=?_) #[t_,t_,t_,t_,t_,t_,t_,t_,t_,t_,f_] rfl rfl (by kernel_rfl) (fun _ _ _ h => h) (Or.inl ⟨by rfl,?_⟩) ?_ ?_
   rotate_left;intro w';go_simp;with_reducible rfl;rotate_left;simp only [Act.put,sA_,sB_,sC_,i64_w,i32_w];rfl
   refine last_ (i:=10) (N:=none) #[t_,t_,t_,t_,t_,t_,t_,t_,t_,t_,t_] rfl rfl (by kernel_rfl) (by decide) (fun K hK => ?_)
   refine skip_ (w1:=?_) (by rfl) rfl ?_ ?_
   rotate_left
   ·go_simp
    rfl
   refine hK.out _ _ ?_
   clear hK K
   refine done_ (by kernel_rfl) ?_
   clear hHeld
   go_wp2_with fail
   go_roundw
   case rel =>
    have htb : tag7 b = (Kn,1,0) := by rw [HFR7.out.same b (lt_of_heap (heap_alloc_lt HH6.out _))]; exact HTB6.out
    have hs : Fr (fun t => t = (Kn,1,0)) tag7 tag7 w7 (w7.setCell ⟨b,2,none⟩ (.slice (some ⟨g7,0,none⟩) (n + 1) cap7)) := Fr.setCell HFR7.out.dom (a := ⟨b,2,none⟩) htb _
    have hc : Fr (fun t => t = (Kn,1,0) ∨ t = (Kn,3,0)) tag5 tag7 w6 (w7.setCell ⟨b,2,none⟩ (.slice (some ⟨g7,0,none⟩) (n + 1) cap7)) := ((((Fr.refl hok6).al _).dr).trans (HFR7.out.mono (fun _ h => .inr h))).trans (hs.mono (fun _ h => .inl h))
    refine ⟨n + 1,by omega,by go_num,tag7,.slice (some ⟨g7,0,none⟩) (n + 1) cap7,Lib.hid {
     hp := by rw [Go.Ng.heap_setCell_same HH7.out 2 _]; rfl
     tb := htb
     its := ⟨its2 ++ [⟨xv,xh,.slice A3 ql.length cap3,.slice A5 tl.length cap5⟩],by rw [List.length_append,HI2.out]; rfl,by rw [List.flatMap_append]; exact HROW7.out.fr hs (by simp),?_⟩
     fr := HG6.out.trans (hc.mono (fun t h => by rcases h with h | h <;> rw [h])) }⟩
    intro j o x a b'
    by_cases e : j < its2.length
    ·rw [List.getElem?_append_left e] at b'
     exact (HIE.out j o x a b').fr' hc (by simp) (by simp)
    ·have hj : j = n := by
      have h1 := (List.getElem?_eq_some_iff.1 b').1
      simp at h1
      have := HI2.out
      omega
     subst hj
     rw [HOI.out] at a
     have hin := HI2.out
     rw [List.getElem?_append_right (by omega),hin] at b'
     simp at b' a
     subst b' a
     refine HRE.out Kn _ _ _ _ ((HR6.out.fr hc (by simp)).orow (askers_one ql)) (HT6.out.fr hc (by simp)) (fun e => ?_) (fun e => ?_)
     ·obtain ⟨h1,h2⟩ := HN3.out (by rw [e]; rfl)
      rw [h1,h2,e]; rfl
     ·obtain ⟨h1,h2⟩ := HN5.out (by rw [e]; rfl)
      rw [h1,h2,e]; rfl
   case measure => simp [intOf]; omega
  ·have : n = its.length := by omega
   subst this
   have y3 : wr.cell? ⟨b,3,none⟩ = some (.slice none 0 0) := cell_of HS.out.hp 3
   have hrd : Rd 4 wr (.slice PA prs.length pcap) prs.length (prs.flatMap RPr.cells) := (H7.out.fr HS.out.fr (hnk _ _)).rd (rprs_one H6.out H8.out)
   have HRD := Lib.hid hrd
   clear hrd
   go_wp2_with fail
   refine start_ (n:=13) (S:=fun w' => w'.cell? ⟨b,3,none⟩ = some (.slice none 0 0) ∧ w'.cell? ⟨p,3,none⟩ = some (.slice PA prs.length pcap)) (ds := [12]) #[f_,f_,f_,f_,f_,f_,f_,f_,f_,f_,f_,f_,f_] (by kernel_rfl) rfl rfl ⟨y3,c3⟩ (fun hHeld => ?_)
   refine pure_ (i:=0) (N:=some 54) (v:=?_) (a':=?_) #[t_,f_,f_,f_,f_,f_,f_,f_,f_,f_,f_,f_,f_] rfl rfl (by kernel_rfl) (fun _ _ _ h => h) (Or.inl ⟨by rfl,?_⟩) ?_ ?_
   rotate_left;intro w';go_simp;with_reducible rfl;rotate_left;simp only [Act.put,sA_,sB_,sC_,i64_w,i32_w];rfl
   refine pure_ (i:=1) (N:=some 55) (v:=?_) (a':=?_) #[t_,t_,f_,f_,f_,f_,f_,f_,f_,f_,f_,f_,f_] rfl rfl (by kernel_rfl) (fun _ _ _ h => h) (Or.inl ⟨by rfl,?_⟩) ?_ ?_
   rotate_left;intro w';go_simp;with_reducible rfl;rotate_left;simp only [Act.put,sA_,sB_,sC_,i64_w,i32_w];rfl
   refine pure_ (i:=2) (N:=some 56) (v:=?_) (a':=?_) #[t_,t_,t_,f_,f_,f_,f_,f_,f_,f_,f_,f_,f_] rfl rfl (by kernel_rfl) (fun _ _ _ h => h) (Or.inl ⟨by rfl,?_⟩) ?_ ?_
   rotate_left;intro w';go_simp;with_reducible rfl;rotate_left;simp only [Act.put,sA_,sB_,sC_,i64_w,i32_w];rfl
   refine pure_ (i:=3) (N:=some 57) (v:=?_) (a':=?_) #[t_,t_,t_,t_,f_,f_,f_,f_,f_,f_,f_,f_,f_] rfl rfl (by kernel_rfl) (fun _ _ _ h => h) (Or.inl ⟨by rfl,?_⟩) ?_ ?_
   rotate_left;intro w';go_simp;with_reducible rfl;rotate_left;simp only [Act.put,sA_,sB_,sC_,i64_w,i32_w];rfl
   refine pure_ (i:=5) (N:=some 59) (v:=?_) (a':=?_) #[t_,t_,t_,t_,f_,t_,f_,f_,f_,f_,f_,f_,f_] rfl rfl (by kernel_rfl) (fun _ _ _ h => h) (Or.inl ⟨by rfl,?_⟩) ?_ ?_
   rotate_left;intro w';go_simp;with_reducible rfl;rotate_left;simp only [Act.put,sA_,sB_,sC_,i64_w,i32_w];rfl
   refine pure_ (i:=6) (N:=some 60) (v:=?_) (a':=?_) #[t_,t_,t_,t_,f_,t_,t_,f_,f_,f_,f_,f_,f_] rfl rfl (by kernel_rfl) (fun _ _ _ h => h) (Or.inl ⟨by rfl,?_⟩) ?_ ?_
   rotate_left;intro w';go_simp;with_reducible rfl;rotate_left;simp only [Act.put,sA_,sB_,sC_,i64_w,i32_w];rfl
   refine pure_ (i:=7) (N:=some 61) (v:=?_) (a':=?_) #[t_,t_,t_,t_,f_,t_,t_,t_,f_,f_,f_,f_,f_] rfl rfl (by kernel_rfl) (fun _ _ _ h => h) (Or.inl ⟨by rfl,?_⟩) ?_ ?_
   rotate_left;intro w';go_simp;with_reducible rfl;rotate_left;simp only [Act.put,sA_,sB_,sC_,i64_w,i32_w];rfl
   refine take_ (i:=4) (N:=some 58) (v:=?_) (a':=?_) #[t_,t_,t_,t_,t_,t_,t_,t_,f_,f_,f_,f_,f_] rfl rfl (by kernel_rfl) (fun _ _ _ h => h) (Or.inl ⟨by rfl,?_⟩) hHeld ?_ ?_
   rotate_left;rintro w' ⟨s0,s1⟩;go_simp;with_reducible rfl;rotate_left;simp only [Act.put,sA_,sB_,sC_,i64_w,i32_w];rfl
   refine take_ (i:=8) (N:=some 62) (v:=?_) (a':=?_) #[t_,t_,t_,t_,t_,t_,t_,t_,t_,f_,f_,f_,f_] rfl rfl (by kernel_rfl) (fun _ _ _ h => h) (Or.inl ⟨by rfl,?_⟩) hHeld ?_ ?_
   rotate_left;rintro w' ⟨s0,s1⟩;go_simp;with_reducible rfl;rotate_left;simp only [Act.put,sA_,sB_,sC_,i64_w,i32_w];rfl
   refine one_ (i:=9) (N:=some 63) #[t_,t_,t_,t_,t_,t_,t_,t_,t_,t_,f_,f_,f_] rfl rfl (by kernel_rfl) (by decide) (fun K hK => ?_)
   refine append_none_any_arm (Kn,4,0) (by rfl) rfl (.tmp 58) (.tmp 62) 125 rfl (by rfl) (by rfl) (TagOk.drew hokr) Tryz.underlying125 hj140 hx0 hx1 hx2 rfl (by decide) HRD.out.drew (by unfold maxLen; omega) (by omega) ?_
   intro A7 cap7 w7 tag7 hrow hfr _
   have HH7 := Lib.hid (hfr.heap (show wr.drew.heap[b]? = _ from HS.out.hp) (fun x => x))
   have d3 : w7.cell? ⟨b,3,none⟩ = some (.slice none 0 0) := cell_of HH7.out 3
   have dz3 := free_of HH7.out 3
   have HFR7 := Lib.hid hfr
   have HROW7 := Lib.hid hrow
   clear hrow hfr
   refine hK.out _ _ ⟨d3,(HFR7.out.cellF hHeld.2)⟩ (fun hHeld => ?_)
   clear hK K
   refine norm_ (a':=?_) ?_ ?_
   rotate_left
   ·show Act.put _ (some 63) _ = _
    simp only [Act.put,sA_,sB_,sC_,i64_w,i32_w]
    rfl
   refine pure_ (i:=10) (N:=some 64) (v:=?_) (a':=?_) #[t_,t_,t_,t_,t_,t_,t_,t_,t_,t_,t_,f_,f_] rfl rfl (by kernel_rfl) (fun _ _ _ h => h) (Or.inl ⟨by rfl,?_⟩) ?_ ?_
   rotate_left;intro w';go_simp;with_reducible rfl;rotate_left;simp only [Act.put,sA_,sB_,sC_,i64_w,i32_w];rfl
   refine pure_ (i:=11) (N:=some 65) (v:=?_) (a':=?_) #[t_,t_,t_,t_,t_,t_,t_,t_,t_,t_,t_,t_,f_] rfl rfl (by kernel_rfl) (fun _ _ _ h => h) (Or.inl ⟨by rfl,?_⟩) ?_ ?_
   rotate_left;intro w';go_simp;with_reducible rfl;rotate_left;simp only [Act.put,sA_,sB_,sC_,i64_w,i32_w];rfl
   refine last_ (i:=12) (N:=none) #[t_,t_,t_,t_,t_,t_,t_,t_,t_,t_,t_,t_,t_] rfl rfl (by kernel_rfl) (by decide) (fun K hK => ?_)
   refine skip_ (w1:=?_) (by rfl) rfl ?_ ?_
   rotate_left
   ·go_simp
    rfl
   refine hK.out _ _ ?_
   clear hK K
   refine done_ (by kernel_rfl) ?_
   clear hHeld
   go_wp2_with fail
   obtain ⟨wz,hwz⟩ : ∃ x,x = w7.setCell ⟨b,3,none⟩ (.slice A7 prs.length cap7) := ⟨_,rfl⟩
   rw [← hwz]
   go_ret
   have htb : tag7 b = (Kn,1,0) := by rw [HFR7.out.same b (lt_of_heap (show wr.drew.heap[b]? = _ from HS.out.hp))]; exact HS.out.tb
   have hs : Fr (fun t => t = (Kn,1,0)) tag7 tag7 w7 wz := by rw [hwz]; exact Fr.setCell HFR7.out.dom (a := ⟨b,3,none⟩) htb _
   have hc : Fr (fun t => t = (Kn,1,0)) tagr tag7 wr wz := (((Fr.refl hokr).dr).trans HFR7.out.up).trans hs
   have hF : Fr (fun _ => False) tag tag7 w wz := ((HS.out.fr.trans (hc.mono (fun t h => by rw [h]))).mono (fun _ h => .inr h)).dropN HNO.out
   obtain ⟨its2,hi2,hir,hie⟩ := HS.out.its
   obtain ⟨IA2,icap2,rfl,_,_⟩ := hir.form
   have hkn : k ≠ Kn := fun e => hKk e.symm
   refine ⟨b,renum tag7 Kn k,rfl,⟨hk0,renum_at htb,_,.slice IA2 its.length icap2,.slice A7 prs.length cap7,by rw [hwz,Go.Ng.heap_setCell_same HH7.out 3 _]; rfl,(H2.out.fr hF (fun x => x)).renum_ne k hkn,⟨its2,by rw [hi2,H3.out],by rw [hi2]; exact (hir.fr hc (by simp)).renum k,fun j o x a b' => ((hie j o x a b').fr' hc (by simp) (by simp)).renum k⟩,prs,H6.out,(HROW7.out.fr hs (by simp)).renum k,fun i n y x a b' => ?_⟩,hF.renum hK0 HNO.out⟩
   have := (H8.out i n y x a b').fr hF (fun r i e => e)
   exact ⟨this.no,this.st,this.got,this.cr,this.ct.renum_ne k hkn⟩
end
def rptr (p : Nat) : Value := .pointer (some ⟨p,0,none⟩)
structure RNRep (tag : Nat → Tag) (B : Nat) (w : World) (q : Nat) (N : NetM) : Prop where
 b0 : B ≠ 0
 tptr : tag q = (B,1,0)
 cells : ∃ pv fv cv hv yv dv,w.heap[q]? = some (.cells #[pv,fv,cv,hv,yv,dv] 78 (0,0)) ∧
  (∃ ps : List Nat,ps.length = N.places.length ∧ Row tag (B,2,0) 79 1 w pv N.places.length (ps.map rptr) ∧ ∀ (i p : Nat) P,ps[i]? = some p → N.places[i]? = some P → RPRep tag (B + 1 + i) w p P) ∧
  Row tag (B,4,0) 52 6 w fv N.flight.length (posts N.flight) ∧
  (∃ cvs : List Value,Row tag (B,5,0) 37 1 w cv N.claims.length cvs ∧ ∀ (i : Nat) (l : List Clm),N.claims[i]? = some l → ∃ v,cvs[i]? = some v ∧ Row tag (B,6,(i : Int)) 48 2 w v l.length (YtclkokkppgchfaaGreat.claims l)) ∧
  Row tag (B,7,0) 3 1 w hv N.homes.length (ints N.homes) ∧
  (∃ yvs : List Value,Row tag (B,8,0) 22 1 w yv N.history.length yvs ∧ ∀ (i : Nat) (l : List Int),N.history[i]? = some l → ∃ v,yvs[i]? = some v ∧ Row tag (B,9,(i : Int)) 3 1 w v l.length (ints l)) ∧
  Row tag (B,10,0) 3 1 w dv N.decided.length (ints N.decided)
section
variable {S : Tag → Prop} {tag tag' : Nat → Tag} {w w' : World} {B q : Nat} {N : NetM}
theorem RNRep.fr (h : RNRep tag B w q N) (hf : Fr S tag tag' w w') (hS : ∀ i r j,i ≤ N.places.length → ¬ S (B + i,r,j)) : RNRep tag' B w' q N := by
 obtain ⟨pv,fv,cv,hv,yv,dv,hc,⟨ps,p1,p2,p3⟩,h4,⟨cvs,h5,h6⟩,h7,⟨yvs,h8,h9⟩,h10⟩ := h.cells
 have no : ∀ r j,¬ S (B,r,j) := fun r j => hS 0 r j (Nat.zero_le _)
 refine ⟨h.b0,(hf.tag_eq hc).trans h.tptr,pv,fv,cv,hv,yv,dv,hf.heap hc (by rw [h.tptr]; exact no _ _),⟨ps,p1,p2.fr hf (no _ _),fun i p P a b => ?_⟩,h4.fr hf (no _ _),⟨cvs,h5.fr hf (no _ _),fun i l hl => ?_⟩,h7.fr hf (no _ _),⟨yvs,h8.fr hf (no _ _),fun i l hl => ?_⟩,h10.fr hf (no _ _)⟩
 ·have hl := (List.getElem?_eq_some_iff.1 b).1
  refine (p3 i p P a b).fr hf (fun r j => ?_)
  have := hS (1 + i) r j (by omega)
  rwa [← Nat.add_assoc] at this
 ·obtain ⟨v,hv,hr⟩ := h6 i l hl
  exact ⟨v,hv,hr.fr hf (no _ _)⟩
 ·obtain ⟨v,hv,hr⟩ := h9 i l hl
  exact ⟨v,hv,hr.fr hf (no _ _)⟩
theorem RNRep.frF (h : RNRep tag B w q N) (hf : Fr (fun _ => False) tag tag' w w') : RNRep tag' B w' q N := h.fr hf (fun _ _ _ _ x => x)
theorem RNRep.set_flight (h : RNRep tag B w q N) (hf : Fr S tag tag' w w') (hS : ∀ t,S t → t = (B,1,0) ∨ t = (B,4,0) ∨ B + 32 < t.1) (h32 : N.places.length ≤ 32) (l : List Post)
  (hc : ∀ pv fv cv hv yv dv,w.heap[q]? = some (.cells #[pv,fv,cv,hv,yv,dv] 78 (0,0)) → ∃ fv',w'.heap[q]? = some (.cells #[pv,fv',cv,hv,yv,dv] 78 (0,0)) ∧ Row tag' (B,4,0) 52 6 w' fv' l.length (posts l)) :
  RNRep tag' B w' q { N with flight := l } := by
 obtain ⟨pv,fv,cv,hv,yv,dv,h1,⟨ps,p1,p2,p3⟩,h4,⟨cvs,h5,h6⟩,h7,⟨yvs,h8,h9⟩,h10⟩ := h.cells
 obtain ⟨nv',k1,k4⟩ := hc pv fv cv hv yv dv h1
 have no : ∀ r j,r ≠ 1 → r ≠ 4 → ¬ S (B,r,j) := fun r j a b hs => by
  rcases hS _ hs with e | e | e
  ·simp_all
  ·simp_all
  ·simp at e; omega
 refine ⟨h.b0,(hf.tag_eq h1).trans h.tptr,pv,nv',cv,hv,yv,dv,k1,⟨ps,p1,p2.fr hf (no _ _ (by decide) (by decide)),fun i p P a b => ?_⟩,k4,⟨cvs,h5.fr hf (no _ _ (by decide) (by decide)),fun i l hl => ?_⟩,h7.fr hf (no _ _ (by decide) (by decide)),⟨yvs,h8.fr hf (no _ _ (by decide) (by decide)),fun i l hl => ?_⟩,h10.fr hf (no _ _ (by decide) (by decide))⟩
 ·have hl := (List.getElem?_eq_some_iff.1 b).1
  refine (p3 i p P a b).fr hf (fun r j hs => ?_)
  have hl' : i < N.places.length := hl
  rcases hS _ hs with e | e | e
  ·simp at e; omega
  ·simp at e; omega
  ·simp at e; omega
 ·obtain ⟨v,hv,hr⟩ := h6 i l hl
  exact ⟨v,hv,hr.fr hf (no _ _ (by decide) (by decide))⟩
 ·obtain ⟨v,hv,hr⟩ := h9 i l hl
  exact ⟨v,hv,hr.fr hf (no _ _ (by decide) (by decide))⟩
theorem RNRep.set_decided (h : RNRep tag B w q N) (hf : Fr S tag tag' w w') (hS : ∀ t,S t → t = (B,1,0) ∨ t = (B,10,0) ∨ B + 32 < t.1) (h32 : N.places.length ≤ 32) (l : List Int)
  (hc : ∀ pv fv cv hv yv dv,w.heap[q]? = some (.cells #[pv,fv,cv,hv,yv,dv] 78 (0,0)) → ∃ dv',w'.heap[q]? = some (.cells #[pv,fv,cv,hv,yv,dv'] 78 (0,0)) ∧ Row tag' (B,10,0) 3 1 w' dv' l.length (ints l)) :
  RNRep tag' B w' q { N with decided := l } := by
 obtain ⟨pv,fv,cv,hv,yv,dv,h1,⟨ps,p1,p2,p3⟩,h4,⟨cvs,h5,h6⟩,h7,⟨yvs,h8,h9⟩,h10⟩ := h.cells
 obtain ⟨nv',k1,k4⟩ := hc pv fv cv hv yv dv h1
 have no : ∀ r j,r ≠ 1 → r ≠ 10 → ¬ S (B,r,j) := fun r j a b hs => by
  rcases hS _ hs with e | e | e
  ·simp_all
  ·simp_all
  ·simp at e; omega
 refine ⟨h.b0,(hf.tag_eq h1).trans h.tptr,pv,fv,cv,hv,yv,nv',k1,⟨ps,p1,p2.fr hf (no _ _ (by decide) (by decide)),fun i p P a b => ?_⟩,h4.fr hf (no _ _ (by decide) (by decide)),⟨cvs,h5.fr hf (no _ _ (by decide) (by decide)),fun i l hl => ?_⟩,h7.fr hf (no _ _ (by decide) (by decide)),⟨yvs,h8.fr hf (no _ _ (by decide) (by decide)),fun i l hl => ?_⟩,k4⟩
 ·have hl := (List.getElem?_eq_some_iff.1 b).1
  refine (p3 i p P a b).fr hf (fun r j hs => ?_)
  have hl' : i < N.places.length := hl
  rcases hS _ hs with e | e | e
  ·simp at e; omega
  ·simp at e; omega
  ·simp at e; omega
 ·obtain ⟨v,hv,hr⟩ := h6 i l hl
  exact ⟨v,hv,hr.fr hf (no _ _ (by decide) (by decide))⟩
 ·obtain ⟨v,hv,hr⟩ := h9 i l hl
  exact ⟨v,hv,hr.fr hf (no _ _ (by decide) (by decide))⟩
theorem RNRep.set_history (h : RNRep tag B w q N) (hf : Fr S tag tag' w w') {j : Nat} (hj : j < N.history.length) (hS : ∀ t,S t → t = (B,8,0) ∨ t = (B,9,(j : Int)) ∨ B + 32 < t.1) (h32 : N.places.length ≤ 32) (l : List Int)
  {pv0 fv0 cv0 hv0 yv0 dv0 v : Value} {yvs : List Value} (hc : w.heap[q]? = some (.cells #[pv0,fv0,cv0,hv0,yv0,dv0] 78 (0,0))) (hyl : yvs.length = N.history.length)
  (h9 : ∀ (i : Nat) (l : List Int),N.history[i]? = some l → ∃ v,yvs[i]? = some v ∧ Row tag (B,9,(i : Int)) 3 1 w v l.length (ints l))
  (k8 : Row tag' (B,8,0) 22 1 w' yv0 N.history.length (yvs.set j v)) (k9 : Row tag' (B,9,(j : Int)) 3 1 w' v l.length (ints l)) :
  RNRep tag' B w' q { N with history := N.history.set j l } := by
 obtain ⟨pv,fv,cv,hv,yv,dv,h1,⟨ps,p1,p2,p3⟩,h4,⟨cvs,h5,h6⟩,h7,⟨yvs',h8,_⟩,h10⟩ := h.cells
 obtain ⟨rfl,rfl,rfl,rfl,rfl,rfl⟩ : pv0 = pv ∧ fv0 = fv ∧ cv0 = cv ∧ hv0 = hv ∧ yv0 = yv ∧ dv0 = dv := by
  have := hc.symm.trans h1
  simpa using this
 have no : ∀ r i,r ≠ 8 → r ≠ 9 → ¬ S (B,r,i) := fun r i a b hs => by
  rcases hS _ hs with e | e | e
  ·simp_all
  ·simp_all
  ·simp at e; omega
 refine ⟨h.b0,(hf.tag_eq h1).trans h.tptr,pv0,fv0,cv0,hv0,yv0,dv0,hf.heap h1 (by rw [h.tptr]; exact no _ _ (by decide) (by decide)),⟨ps,p1,p2.fr hf (no _ _ (by decide) (by decide)),fun i p P a b => ?_⟩,h4.fr hf (no _ _ (by decide) (by decide)),⟨cvs,h5.fr hf (no _ _ (by decide) (by decide)),fun i l hl => ?_⟩,h7.fr hf (no _ _ (by decide) (by decide)),⟨yvs.set j v,by simpa using k8,fun i l' hl => ?_⟩,h10.fr hf (no _ _ (by decide) (by decide))⟩
 ·have hl := (List.getElem?_eq_some_iff.1 b).1
  refine (p3 i p P a b).fr hf (fun r j' hs => ?_)
  have hl' : i < N.places.length := hl
  rcases hS _ hs with e | e | e
  ·simp at e; omega
  ·simp at e; omega
  ·simp at e; omega
 ·obtain ⟨v,hv,hr⟩ := h6 i l hl
  exact ⟨v,hv,hr.fr hf (no _ _ (by decide) (by decide))⟩
 ·have hl' : (N.history.set j l)[i]? = some l' := hl
  rw [List.getElem?_set] at hl'
  by_cases e : j = i
  ·subst e
   simp [hj] at hl'
   subst hl'
   exact ⟨v,by simp [hyl,hj],k9⟩
  ·rw [if_neg e] at hl'
   obtain ⟨u,hu,hr⟩ := h9 i l' hl'
   exact ⟨u,by rw [List.getElem?_set_ne (by omega)]; exact hu,hr.fr hf (fun hs => by
    rcases hS _ hs with e' | e' | e'
    ·simp at e'
    ·simp at e'; omega
    ·simp at e'; omega)⟩
theorem rflight_cell (h : RNRep tag B w q N) : ∃ FA fcap,w.cell? ⟨q,1,none⟩ = some (.slice FA N.flight.length fcap) := by
 obtain ⟨pv,fv,cv,hv,yv,dv,h1,_,h4,_⟩ := h.cells
 obtain ⟨FA,fcap,rfl,_⟩ := h4.form
 exact ⟨FA,fcap,cell_of h1 1⟩
theorem rclaims_cell (h : RNRep tag B w q N) : ∃ CA ccap,w.cell? ⟨q,2,none⟩ = some (.slice CA N.claims.length ccap) := by
 obtain ⟨pv,fv,cv,hv,yv,dv,h1,_,h4,⟨cvs,h5,_⟩,_⟩ := h.cells
 obtain ⟨FA,fcap,rfl,_⟩ := h5.form
 exact ⟨FA,fcap,cell_of h1 2⟩
theorem rknown_ok (n : Int) (h : RNRep tag B w q N) :
  Calls Tryz.prog 66 #[.pointer (some ⟨q,0,none⟩),.int .i64 n] w fun e w' => e = .returned (.bool (decide (0 ≤ n) && decide (n < N.claims.length))) ∧ w' = w := by
 obtain ⟨CA,ccap,c2⟩ := rclaims_cell h
 clear h
 by_cases h0 : 0 ≤ n
 ·by_cases h1 : n < N.claims.length
  ·go_enter Tryz.func66,Tryz.ntmps66
   go_wp2_with fail
   go_ret
   exact ⟨by simp [h0,h1] <;> omega,rfl⟩
  ·go_enter Tryz.func66,Tryz.ntmps66
   go_wp2_with fail
   go_ret
   exact ⟨by simp [h0,h1] <;> omega,rfl⟩
 ·go_enter Tryz.func66,Tryz.ntmps66
  go_wp2_with fail
  go_ret
  exact ⟨by simp [h0] <;> omega,rfl⟩
theorem rdouble_out (n : Int) (h : RNRep tag B w q N) (hn : n < 0 ∨ (N.flight.length : Int) ≤ n) :
  Calls Tryz.prog 40 #[.pointer (some ⟨q,0,none⟩),.int .i64 n] w fun e w' => e = .returned (.int .i64 272) ∧ w' = w := by
 obtain ⟨FA,fcap,c2⟩ := rflight_cell h
 clear h
 by_cases h0 : n < 0
 ·clear hn
  go_enter Tryz.func40,Tryz.ntmps40
  go_wp2_with fail
  go_ret
  exact ⟨rfl,rfl⟩
 ·have h1 : (N.flight.length : Int) ≤ n := by omega
  clear hn
  go_enter Tryz.func40,Tryz.ntmps40
  go_wp2_with fail
  go_ret
  exact ⟨rfl,rfl⟩
theorem rdeliver_out (n : Int) (h : RNRep tag B w q N) (hn : n < 0 ∨ (N.flight.length : Int) ≤ n) :
  Calls Tryz.prog 39 #[.pointer (some ⟨q,0,none⟩),.int .i64 n] w fun e w' => e = .returned (.tuple #[.slice none 0 0,.int .i64 272]) ∧ w' = w := by
 obtain ⟨FA,fcap,c2⟩ := rflight_cell h
 clear h
 by_cases h0 : n < 0
 ·clear hn
  go_enter Tryz.func39,Tryz.ntmps39
  go_wp2_with fail
  go_ret2
  exact ⟨rfl,rfl⟩
 ·have h1 : (N.flight.length : Int) ≤ n := by omega
  clear hn
  go_enter Tryz.func39,Tryz.ntmps39
  go_wp2_with fail
  go_ret2
  exact ⟨rfl,rfl⟩
set_option maxRecDepth 100000 in
set_option maxHeartbeats 1600000 in
theorem rdouble_ok {i : Nat} {m : Post} (h : RNRep tag B w q N) (hok : TagOk tag w) (hi : N.flight[i]? = some m) (hf : N.flight.length < 20000) (h32 : N.places.length ≤ 32) :
  Calls Tryz.prog 40 #[.pointer (some ⟨q,0,none⟩),.int .i64 (i : Int)] w fun e w' => e = .returned (.int .i64 0) ∧ ∃ tag',RNRep tag' B w' q { N with flight := N.flight ++ [m] } ∧ Fr (fun t => t.1 = B) tag tag' w w' := by
 obtain ⟨i0,hinf,hz0,hz1,hz2⟩ := info_parts Tryz.info52
 obtain ⟨pv,fv,xv,hv',yv,dv,hce,h2,h4,⟨cvs,h5,h6⟩,h7,⟨yvs,h8,h9⟩,h10⟩ := h.cells
 obtain ⟨FA,fcap,rfl,q3,q4⟩ := h4.form
 unfold maxLen at q4
 have hil := (List.getElem?_eq_some_iff.1 hi).1
 obtain ⟨fb,rfl,hfbt,hfb,hfe⟩ := Row.elem (enc := Post.cells) h4 (fun _ => rfl) (by decide) hi
 have c2 : w.cell? ⟨q,1,none⟩ = some (.slice (some ⟨fb,0,none⟩) N.flight.length fcap) := cell_of hce 1
 have e0 : w.cell? ⟨fb,i * 6,none⟩ = some (.int .i64 m.kind) := hfe 0 _ rfl
 have e1 : w.cell? ⟨fb,i * 6 + 1,none⟩ = some (.int .i64 m.src) := hfe 1 _ rfl
 have e2 : w.cell? ⟨fb,i * 6 + 2,none⟩ = some (.int .i64 m.dst) := hfe 2 _ rfl
 have e3 : w.cell? ⟨fb,i * 6 + 3,none⟩ = some (.int .i64 m.prop) := hfe 3 _ rfl
 have e4 : w.cell? ⟨fb,i * 6 + 4,none⟩ = some (.int .i64 m.item) := hfe 4 _ rfl
 have e5 : w.cell? ⟨fb,i * 6 + 5,none⟩ = some (.int .i64 m.version) := hfe 5 _ rfl
 have i1 : (0 : Int) ≤ (i : Int) := by omega
 have i2 : (i : Int) < (N.flight.length : Int) := by omega
 have i3 : (N.flight.length : Int) < 20000 := by omega
 have i5 : decide ((i : Int) < 0) = false := by simp
 have hn0 := lt_of_heap hce
 have HN := Lib.hid h
 have HCE := Lib.hid hce
 have H4 := Lib.hid h4
 clear h hce h2 h4 h5 h6 h7 h8 h9 h10 hfe hi
 go_enter Tryz.func40,Tryz.ntmps40
 go_wp2_with fail
 refine start_ (n:=17) (S:=fun w' => w'.cell? ⟨q,1,none⟩ = some (.slice (some ⟨fb,0,none⟩) N.flight.length fcap) ∧ w'.cell? ⟨fb,i * 6,none⟩ = some (.int .i64 m.kind) ∧ w'.cell? ⟨fb,i * 6 + 1,none⟩ = some (.int .i64 m.src) ∧ w'.cell? ⟨fb,i * 6 + 2,none⟩ = some (.int .i64 m.dst) ∧ w'.cell? ⟨fb,i * 6 + 3,none⟩ = some (.int .i64 m.prop) ∧ w'.cell? ⟨fb,i * 6 + 4,none⟩ = some (.int .i64 m.item) ∧ w'.cell? ⟨fb,i * 6 + 5,none⟩ = some (.int .i64 m.version)) (ds := [13,16]) #[f_,f_,f_,f_,f_,f_,f_,f_,f_,f_,f_,f_,f_,f_,f_,f_,f_] (by kernel_rfl) rfl rfl ⟨c2,e0,e1,e2,e3,e4,e5⟩ (fun hHeld => ?_)
 refine pure_ (i:=0) (N:=some 24) (v:=?_) (a':=?_) #[t_,f_,f_,f_,f_,f_,f_,f_,f_,f_,f_,f_,f_,f_,f_,f_,f_] rfl rfl (by kernel_rfl) (fun _ _ _ h => h) (Or.inl ⟨by rfl,?_⟩) ?_ ?_
 rotate_left;intro w';go_simp;with_reducible rfl;rotate_left;simp only [Act.put,sA_,sB_,sC_,i64_w,i32_w];rfl
 refine pure_ (i:=1) (N:=some 25) (v:=?_) (a':=?_) #[t_,t_,f_,f_,f_,f_,f_,f_,f_,f_,f_,f_,f_,f_,f_,f_,f_] rfl rfl (by kernel_rfl) (fun _ _ _ h => h) (Or.inl ⟨by rfl,?_⟩) ?_ ?_
 rotate_left;intro w';go_simp;with_reducible rfl;rotate_left;simp only [Act.put,sA_,sB_,sC_,i64_w,i32_w];rfl
 refine pure_ (i:=2) (N:=some 26) (v:=?_) (a':=?_) #[t_,t_,t_,f_,f_,f_,f_,f_,f_,f_,f_,f_,f_,f_,f_,f_,f_] rfl rfl (by kernel_rfl) (fun _ _ _ h => h) (Or.inl ⟨by rfl,?_⟩) ?_ ?_
 rotate_left;intro w';go_simp;with_reducible rfl;rotate_left;simp only [Act.put,sA_,sB_,sC_,i64_w,i32_w];rfl
 refine pure_ (i:=3) (N:=some 27) (v:=?_) (a':=?_) #[t_,t_,t_,t_,f_,f_,f_,f_,f_,f_,f_,f_,f_,f_,f_,f_,f_] rfl rfl (by kernel_rfl) (fun _ _ _ h => h) (Or.inl ⟨by rfl,?_⟩) ?_ ?_
 rotate_left;intro w';go_simp;with_reducible rfl;rotate_left;simp only [Act.put,sA_,sB_,sC_,i64_w,i32_w];rfl
 refine pure_ (i:=5) (N:=some 29) (v:=?_) (a':=?_) #[t_,t_,t_,t_,f_,t_,f_,f_,f_,f_,f_,f_,f_,f_,f_,f_,f_] rfl rfl (by kernel_rfl) (fun _ _ _ h => h) (Or.inl ⟨by rfl,?_⟩) ?_ ?_
 rotate_left;intro w';go_simp;with_reducible rfl;rotate_left;simp only [Act.put,sA_,sB_,sC_,i64_w,i32_w];rfl
 refine pure_ (i:=6) (N:=some 30) (v:=?_) (a':=?_) #[t_,t_,t_,t_,f_,t_,t_,f_,f_,f_,f_,f_,f_,f_,f_,f_,f_] rfl rfl (by kernel_rfl) (fun _ _ _ h => h) (Or.inl ⟨by rfl,?_⟩) ?_ ?_
 rotate_left;intro w';go_simp;with_reducible rfl;rotate_left;simp only [Act.put,sA_,sB_,sC_,i64_w,i32_w];rfl
 refine pure_ (i:=7) (N:=some 31) (v:=?_) (a':=?_) #[t_,t_,t_,t_,f_,t_,t_,t_,f_,f_,f_,f_,f_,f_,f_,f_,f_] rfl rfl (by kernel_rfl) (fun _ _ _ h => h) (Or.inl ⟨by rfl,?_⟩) ?_ ?_
 rotate_left;intro w';go_simp;with_reducible rfl;rotate_left;simp only [Act.put,sA_,sB_,sC_,i64_w,i32_w];rfl
 refine pure_ (i:=9) (N:=some 33) (v:=?_) (a':=?_) #[t_,t_,t_,t_,f_,t_,t_,t_,f_,t_,f_,f_,f_,f_,f_,f_,f_] rfl rfl (by kernel_rfl) (fun _ _ _ h => h) (Or.inl ⟨by rfl,?_⟩) ?_ ?_
 rotate_left;intro w';go_simp;with_reducible rfl;rotate_left;simp only [Act.put,sA_,sB_,sC_,i64_w,i32_w];rfl
 refine take_ (i:=4) (N:=some 28) (v:=?_) (a':=?_) #[t_,t_,t_,t_,t_,t_,t_,t_,f_,t_,f_,f_,f_,f_,f_,f_,f_] rfl rfl (by kernel_rfl) (fun _ _ _ h => h) (Or.inl ⟨by rfl,?_⟩) hHeld ?_ ?_
 rotate_left;rintro w' ⟨s0,s1,s2,s3,s4,s5,s6⟩;go_simp;with_reducible rfl;rotate_left;simp only [Act.put,sA_,sB_,sC_,i64_w,i32_w];rfl
 refine take_ (i:=8) (N:=some 32) (v:=?_) (a':=?_) #[t_,t_,t_,t_,t_,t_,t_,t_,t_,t_,f_,f_,f_,f_,f_,f_,f_] rfl rfl (by kernel_rfl) (fun _ _ _ h => h) (Or.inl ⟨by rfl,?_⟩) hHeld ?_ ?_
 rotate_left;rintro w' ⟨s0,s1,s2,s3,s4,s5,s6⟩;go_simp;with_reducible rfl;rotate_left;simp only [Act.put,sA_,sB_,sC_,i64_w,i32_w];rfl
 refine pure_ (i:=10) (N:=some 34) (v:=?_) (a':=?_) #[t_,t_,t_,t_,t_,t_,t_,t_,t_,t_,t_,f_,f_,f_,f_,f_,f_] rfl rfl (by kernel_rfl) (fun _ _ _ h => h) (Or.inl ⟨by rfl,?_⟩) ?_ ?_
 rotate_left;intro w';go_simp;with_reducible rfl;rotate_left;simp only [Act.put,sA_,sB_,sC_,i64_w,i32_w];rfl
 refine take_ (i:=11) (N:=some 35) (v:=?_) (a':=?_) #[t_,t_,t_,t_,t_,t_,t_,t_,t_,t_,t_,t_,f_,f_,f_,f_,f_] rfl rfl (by kernel_rfl) (fun _ _ _ h => h) (Or.inl ⟨by rfl,?_⟩) hHeld ?_ ?_
 rotate_left;rintro w' ⟨s0,s1,s2,s3,s4,s5,s6⟩;go_simp;with_reducible rfl;rotate_left;simp only [Act.put,sA_,sB_,sC_,i64_w,i32_w];rfl
 refine one_ (i:=12) (N:=some 36) #[t_,t_,t_,t_,t_,t_,t_,t_,t_,t_,t_,t_,t_,f_,f_,f_,f_] rfl rfl (by kernel_rfl) (by decide) (fun K hK => ?_)
 refine value_ (w1:=?_) (v:=?_) (by rfl) rfl ?_ ?_
 rotate_left 2
 ·go_simp
  constructor
  ·rfl
  ·rfl
 refine hK.out _ _ ⟨(ca hHeld.1 _),(ca hHeld.2.1 _),(ca hHeld.2.2.1 _),(ca hHeld.2.2.2.1 _),(ca hHeld.2.2.2.2.1 _),(ca hHeld.2.2.2.2.2.1 _),(ca hHeld.2.2.2.2.2.2 _)⟩ (fun hHeld => ?_)
 clear hK K
 refine norm_ (a':=?_) ?_ ?_
 rotate_left
 ·show Act.put _ (some 36) _ = _
  simp only [Act.put,sA_,sB_,sC_,i64_w,i32_w]
  rfl
 refine last_ (i:=13) (N:=some 37) #[t_,t_,t_,t_,t_,t_,t_,t_,t_,t_,t_,t_,t_,t_,f_,f_,f_] rfl rfl (by kernel_rfl) (by decide) (fun K hK => ?_)
 refine append_arm (by rfl) rfl (.tmp 28) (.tmp 36) 35 rfl (by rfl) (by rfl) (H4.out.alloc _).drew (hok.alloc _).drew Tryz.underlying35 hinf hz0 hz1 hz2 rfl (by decide) (Post.cells m) rfl (news_at (Go.Ng.heap_alloc_at _ _)) (by simp [Post.cells,Value.oneCell']) (by decide) (by unfold maxLen; omega) (by omega) ?_
 intro g cap5 w5 tag5 hrow hfr
 have hc5 := Lib.hid (hfr.heap (heap_alloc_lt HCE.out _) (by rw [HN.out.tptr]; simp))
 have d2 : w5.cell? ⟨q,1,none⟩ = some (.slice (some ⟨fb,0,none⟩) N.flight.length fcap) := cell_of hc5.out 1
 have f2 := free_of hc5.out 1
 refine hK.out _ _ ?_
 clear hK K
 refine norm_ (a':=?_) ?_ ?_
 rotate_left
 ·show Act.put _ (some 37) _ = _
  simp only [Act.put,sA_,sB_,sC_,i64_w,i32_w]
  rfl
 refine pure_ (i:=14) (N:=some 38) (v:=?_) (a':=?_) #[t_,t_,t_,t_,t_,t_,t_,t_,t_,t_,t_,t_,t_,t_,t_,f_,f_] rfl rfl (by kernel_rfl) (fun _ _ _ h => h) (Or.inl ⟨by rfl,?_⟩) ?_ ?_
 rotate_left;intro w';go_simp;with_reducible rfl;rotate_left;simp only [Act.put,sA_,sB_,sC_,i64_w,i32_w];rfl
 refine pure_ (i:=15) (N:=some 39) (v:=?_) (a':=?_) #[t_,t_,t_,t_,t_,t_,t_,t_,t_,t_,t_,t_,t_,t_,t_,t_,f_] rfl rfl (by kernel_rfl) (fun _ _ _ h => h) (Or.inl ⟨by rfl,?_⟩) ?_ ?_
 rotate_left;intro w';go_simp;with_reducible rfl;rotate_left;simp only [Act.put,sA_,sB_,sC_,i64_w,i32_w];rfl
 refine last_ (i:=16) (N:=none) #[t_,t_,t_,t_,t_,t_,t_,t_,t_,t_,t_,t_,t_,t_,t_,t_,t_] rfl rfl (by kernel_rfl) (by decide) (fun K hK => ?_)
 refine skip_ (w1:=?_) (by rfl) rfl ?_ ?_
 rotate_left
 ·go_simp
  rfl
 refine hK.out _ _ ?_
 clear hK K
 refine done_ (by kernel_rfl) ?_
 clear hHeld
 have HROW := Lib.hid hrow
 have hF5 : Fr (fun t => t = (B,1,0) ∨ t = (B,4,0)) tag tag5 w w5 := ((Fr.refl hok).al _).dr.trans (hfr.mono (fun _ h => .inr h))
 have HF5 := Lib.hid hF5
 clear hF5 hfr hrow
 go_wp2_with fail
 go_ret
 have ht5 : tag5 q = (B,1,0) := (HF5.out.same _ hn0).trans HN.out.tptr
 have hFs : Fr (fun t => t = (B,1,0)) tag5 tag5 w5 (w5.setCell ⟨q,1,none⟩ (.slice (some ⟨g,0,none⟩) (N.flight.length + 1) cap5)) := Fr.setCell HF5.out.dom (a := ⟨q,1,none⟩) ht5 _
 have hFe := HF5.out.trans (hFs.mono (S' := fun t => t = (B,1,0) ∨ t = (B,4,0)) (fun _ h => .inl h))
 refine ⟨rfl,tag5,HN.out.set_flight hFe (fun _ h => by rcases h with h | h; exact .inl h; exact .inr (.inl h)) h32 _ ?_,hFe.mono (fun t h => by rcases h with h | h <;> rw [h])⟩
 intro pv' fv' cv' hv'' yv' dv' hx
 obtain ⟨rfl,rfl,rfl,rfl,rfl,rfl⟩ : pv' = pv ∧ fv' = _ ∧ cv' = xv ∧ hv'' = hv' ∧ yv' = yv ∧ dv' = dv := by
  have := hx.symm.trans HCE.out
  simpa using this
 refine ⟨.slice (some ⟨g,0,none⟩) (N.flight.length + 1) cap5,?_,?_⟩
 ·rw [Go.Ng.heap_setCell_same hc5.out]; rfl
 ·rw [List.length_append,posts_snoc]
  exact HROW.out.fr hFs (by simp)
end
end Go.Proofs.YtclkokkppgchfaaGreat
