/- A part of the proof: texts of this session, joined. -/
import Derived.Test.YtclkokkppgchfaaPart9
import Derived.IntWalk
import Derived.Test.YtclkokkppgchfaaRows
import Derived.ProofKit
import Derived.Deep.Slices
import Derived.Deep.Fields
import Derived.ChangeSame
import Derived.Lib.SmallJoins
import Derived.OpenShut
import Derived.ChangeOld
import Derived.Below
import Derived.Test.YtclkokkppgchfaaShort
set_option linter.unusedSimpArgs false
set_option linter.unusedVariables false
set_option maxHeartbeats 16000000
set_option maxRecDepth 100000
namespace Go.Proofs.Ytclkokkppgchfaa
open Go.RowKit Go.Ng Go.Proofs.YtclkokkppgchfaaW.PrintLast
theorem Try.info128 : (Try.prog.info? 128).map (fun i => (i.zero,i.size,i.bytes)) = some (some (.agg #[.int .i64 0,.int .i64 0,.slice none 0 0,.slice none 0 0]),4,64) := by kernel_rfl
def refItems : Nat → List Value
 | 0 => []
 | n + 1 => refItems n ++ [.int .i64 0,.int .i64 (-1),.slice none 0 0,.slice none 0 0]
structure RPlace0 (tag : Nat → Tag) (k : Nat) (w : World) (p : Nat) (no : Int) (l : List Int) (n : Nat) : Prop where
 ptr : tag p = (k,1,0)
 cells : ∃ av iv,w.heap[p]? = some (.cells #[.int .i64 no,av,iv,.slice none 0 0] 125 (0,0)) ∧ Row tag (k,2,0) 3 1 w av n (ints (l.take n)) ∧ Row tag (k,3,0) 128 4 w iv n (refItems n)
theorem RPlace0.fr {S : Tag → Prop} {tag tag' : Nat → Tag} {w w' : World} {k p n : Nat} {no : Int} {l : List Int} (h : RPlace0 tag k w p no l n) (hf : Fr S tag tag' w w') (hS : ∀ r j,¬ S (k,r,j)) : RPlace0 tag' k w' p no l n := by
 obtain ⟨h1,av,iv,h2,h3,h4⟩ := h
 exact ⟨(hf.tag_eq h2).trans h1,av,iv,hf.heap h2 (by rw [h1]; exact hS _ _),h3.fr hf (hS _ _),h4.fr hf (hS _ _)⟩
theorem rnewPlace_ok {tag : Nat → Tag} {w : World} {v : Value} (k : Nat) (no : Int) (l : List Int) (hr : Rd 1 w v l.length (ints l)) (he : Ext tag w v) (hok : TagOk tag w) (hk : k ≠ 0) (h0 : 0 ≤ no) (h1 : no < 32) (hl : rightB l 32 = true) :
  Calls Try.prog 19 #[.int .i64 no,v] w fun e w' => ∃ p : Nat,e = .returned (.tuple #[.pointer (some ⟨p,0,none⟩),.int .i64 0]) ∧ ∃ tag',RPlace0 tag' k w' p no l l.length ∧ Fr (fun t => t.1 = k) tag tag' w w' := by
 obtain ⟨i0,hi,hz0,hz1,hz2⟩ := info_parts Try.info128
 obtain ⟨j0,hj,hy0,hy1,hy2⟩ := info_parts Try.info3
 obtain ⟨A,cap,rfl,hn1,hn2⟩ := hr.slice
 unfold maxLen at hn2
 have hll : l.length ≤ 64 := by
  simp [rightB] at hl
  exact hl.1
 have HR := Lib.hid hr
 have HL := Lib.hid hl
 have HE := Lib.hid he
 have hn0 : decide (no < 0) = false := decide_eq_false (by omega)
 have hn1' : decide ((32 : Int) ≤ no) = false := decide_eq_false (by omega)
 clear hr hl he
 go_enter Try.func19,Try.ntmps19
 go_wp2_with (
  go_at_call 68
  refine (rightPlaces_ok l 32 w HR.out).mono ?_
  rw [HL.out]
  rintro e w1 ⟨rfl,hw⟩
  replace hw := hw.symm
  subst hw)
 obtain ⟨w3,hw3⟩ : ∃ w3,w3 = w.alloc (.cells #[.int .i64 no,.slice none 0 0,.slice none 0 0,.slice none 0 0] 125) := ⟨_,rfl⟩
 obtain ⟨p0,hp0⟩ : ∃ p0,p0 = w.heap.size := ⟨_,rfl⟩
 rw [← hw3,← hp0]
 have hF3 : Fr (fun _ => False) tag (give tag p0 (k,1,0)) w w3 := by rw [hw3,hp0]; exact Fr.give_alloc hok _ _
 have hN3 : RPlace0 (give tag p0 (k,1,0)) k w3 p0 no l 0 := by
  refine ⟨give_at _ _ _,.slice none 0 0,.slice none 0 0,?_,by simpa [ints] using Row.nil _ _ _ _ _,Row.nil _ _ _ _ _⟩
  rw [hw3,hp0]; exact Go.Ng.heap_alloc_at _ _
 have HE3 := Lib.hid (HE.out.fr hF3)
 have HR3 := Lib.hid (HR.out.frF hF3)
 have HN3 := Lib.hid hN3
 have HF3 := Lib.hid hF3
 obtain ⟨tag3,ht3⟩ : ∃ t,t = give tag p0 (k,1,0) := ⟨_,rfl⟩
 rw [← ht3] at HE3 HN3 HF3
 clear hw3 hp0 hF3 hN3 ht3
 go_wp2_with fail
 go_loopw [8] (fun i wr => ∃ n : Nat,n ≤ l.length ∧ i = .int .i64 n ∧ ∃ (tagr : Nat → Tag),Hid (RPlace0 tagr k wr p0 no l n) ∧ Hid (Fr (fun t => t.1 = k) tag3 tagr w3 wr)) (fun i _ => l.length - (intOf i).toNat)
 case atStart => exact ⟨0,Nat.zero_le _,rfl,tag3,HN3,Lib.hid (Fr.refl HF3.out.dom)⟩
 case round =>
  obtain ⟨n,hn,rfl,tagr,HNR,HFr⟩ := hrel
  by_cases hlt : n < l.length
  ·have hRr := HR3.out.ext HE3.out HFr.out (fun t h => by rw [h]; exact hk)
   obtain ⟨x,hx⟩ : ∃ x,l[n]? = some x := ⟨_,List.getElem?_eq_getElem hlt⟩
   obtain ⟨b,off,cap2,hv,_,_,e0⟩ := Rd.int hRr hx
   injection hv with hv _ hv2
   subst hv hv2
   have htk : l.take (n + 1) = l.take n ++ [x] := by
    rw [List.take_succ_eq_append_getElem hlt]
    congr 2
    exact (List.getElem?_eq_some_iff.1 hx).2
   have HT := Lib.hid htk
   have hokr := HFr.out.dom
   obtain ⟨hpt,av,iv,hce,h2,h3⟩ := HNR.out
   obtain ⟨AA,acap,rfl,q1,q2⟩ := h2.form
   obtain ⟨IA,icap,rfl,q3,q4⟩ := h3.form
   unfold maxLen at q2 q4
   have c1 : wr.cell? ⟨p0,1,none⟩ = some (.slice AA n acap) := cell_of hce 1
   have i5 : (0 : Int) ≤ (n : Int) := by omega
   have i6 : (n : Int) < (l.length : Int) := by omega
   have HCE := Lib.hid hce
   have H2 := Lib.hid h2
   have H3 := Lib.hid h3
   have HPT := Lib.hid hpt
   have hpl := lt_of_heap hce
   clear hRr hx htk hce h2 h3 hpt
   go_wp2_with fail
   refine start_ (n:=14) (S:=fun w' => w'.cell? ⟨p0,1,none⟩ = some (.slice AA n acap) ∧ w'.cell? ⟨b,off + n,none⟩ = some (.int .i64 x)) (ds := [10,13]) #[f_,f_,f_,f_,f_,f_,f_,f_,f_,f_,f_,f_,f_,f_] (by kernel_rfl) rfl rfl ⟨c1,e0⟩ (fun hHeld => ?_)
   refine pv_ (i:=0) (N:=some 30) (v:=?_) (a':=?_) rfl rfl (by kernel_rfl) (fun _ _ _ h => h) (Or.inl ⟨by rfl,?_⟩) ?_ ?_
   rotate_left;intro w';go_simp;with_reducible rfl;rotate_left;simp only [Act.put,sA_,sB_,sC_,i64_w,i32_w];rfl
   refine pv_ (i:=1) (N:=some 31) (v:=?_) (a':=?_) rfl rfl (by kernel_rfl) (fun _ _ _ h => h) (Or.inl ⟨by rfl,?_⟩) ?_ ?_
   rotate_left;intro w';go_simp;with_reducible rfl;rotate_left;simp only [Act.put,sA_,sB_,sC_,i64_w,i32_w];rfl
   refine pv_ (i:=2) (N:=some 32) (v:=?_) (a':=?_) rfl rfl (by kernel_rfl) (fun _ _ _ h => h) (Or.inl ⟨by rfl,?_⟩) ?_ ?_
   rotate_left;intro w';go_simp;with_reducible rfl;rotate_left;simp only [Act.put,sA_,sB_,sC_,i64_w,i32_w];rfl
   refine pv_ (i:=3) (N:=some 33) (v:=?_) (a':=?_) rfl rfl (by kernel_rfl) (fun _ _ _ h => h) (Or.inl ⟨by rfl,?_⟩) ?_ ?_
   rotate_left;intro w';go_simp;with_reducible rfl;rotate_left;simp only [Act.put,sA_,sB_,sC_,i64_w,i32_w];rfl
   refine pv_ (i:=5) (N:=some 35) (v:=?_) (a':=?_) rfl rfl (by kernel_rfl) (fun _ _ _ h => h) (Or.inl ⟨by rfl,?_⟩) ?_ ?_
   rotate_left;intro w';go_simp;with_reducible rfl;rotate_left;simp only [Act.put,sA_,sB_,sC_,i64_w,i32_w];rfl
   refine pv_ (i:=6) (N:=some 36) (v:=?_) (a':=?_) rfl rfl (by kernel_rfl) (fun _ _ _ h => h) (Or.inl ⟨by rfl,?_⟩) ?_ ?_
   rotate_left;intro w';go_simp;with_reducible rfl;rotate_left;simp only [Act.put,sA_,sB_,sC_,i64_w,i32_w];rfl
   refine pv_ (i:=7) (N:=some 37) (v:=?_) (a':=?_) rfl rfl (by kernel_rfl) (fun _ _ _ h => h) (Or.inl ⟨by rfl,?_⟩) ?_ ?_
   rotate_left;intro w';go_simp;with_reducible rfl;rotate_left;simp only [Act.put,sA_,sB_,sC_,i64_w,i32_w];rfl
   refine tv_ (i:=4) (N:=some 34) (v:=?_) (a':=?_) rfl rfl (by kernel_rfl) (fun _ _ _ h => h) (Or.inl ⟨by rfl,?_⟩) hHeld ?_ ?_
   rotate_left;rintro w' ⟨s0,s1⟩;go_simp;with_reducible rfl;rotate_left;simp only [Act.put,sA_,sB_,sC_,i64_w,i32_w];rfl
   refine tv_ (i:=8) (N:=some 38) (v:=?_) (a':=?_) rfl rfl (by kernel_rfl) (fun _ _ _ h => h) (Or.inl ⟨by rfl,?_⟩) hHeld ?_ ?_
   rotate_left;rintro w' ⟨s0,s1⟩;go_simp;with_reducible rfl;rotate_left;simp only [Act.put,sA_,sB_,sC_,i64_w,i32_w];rfl
   refine one_ (i:=9) (N:=some 39) #[t_,t_,t_,t_,t_,t_,t_,t_,t_,t_,f_,f_,f_,f_] rfl rfl (by kernel_rfl) (by decide) (fun K hK => ?_)
   refine value_ (w1:=?_) (v:=?_) (by rfl) rfl ?_ ?_
   rotate_left 2
   ·go_simp
    constructor
    ·rfl
    ·rfl
   refine hK.out _ _ ⟨(ca hHeld.1 _),(ca hHeld.2 _)⟩ (fun hHeld => ?_)
   clear hK K
   refine norm_ (a':=?_) ?_ ?_
   rotate_left
   ·show Act.put _ (some 39) _ = _
    simp only [Act.put,sA_,sB_,sC_,i64_w,i32_w]
    rfl
   refine last_ (i:=10) (N:=some 40) #[t_,t_,t_,t_,t_,t_,t_,t_,t_,t_,t_,f_,f_,f_] rfl rfl (by kernel_rfl) (by decide) (fun K hK => ?_)
   refine append_arm (by rfl) rfl (.tmp 34) (.tmp 39) 22 rfl (by rfl) (by rfl) (H2.out.alloc _).drew (hokr.alloc _).drew Try.underlying22 hj hy0 hy1 hy2 rfl (by decide) [.int .i64 x] rfl (news_at (Go.Ng.heap_alloc_at _ _)) (by simp [Value.oneCell']) (by decide) (by unfold maxLen; omega) (by omega) ?_
   intro g5 cap5 w5 tag5 hrow hfr
   have hc5 := Lib.hid (hfr.heap (heap_alloc_lt HCE.out _) (by rw [HPT.out]; simp))
   have d1 : w5.cell? ⟨p0,1,none⟩ = some (.slice AA n acap) := cell_of hc5.out 1
   have f1 := free_of hc5.out 1
   refine hK.out _ _ ?_
   clear hK K
   refine norm_ (a':=?_) ?_ ?_
   rotate_left
   ·show Act.put _ (some 40) _ = _
    simp only [Act.put,sA_,sB_,sC_,i64_w,i32_w]
    rfl
   refine pv_ (i:=11) (N:=some 41) (v:=?_) (a':=?_) rfl rfl (by kernel_rfl) (fun _ _ _ h => h) (Or.inl ⟨by rfl,?_⟩) ?_ ?_
   rotate_left;intro w';go_simp;with_reducible rfl;rotate_left;simp only [Act.put,sA_,sB_,sC_,i64_w,i32_w];rfl
   refine pv_ (i:=12) (N:=some 42) (v:=?_) (a':=?_) rfl rfl (by kernel_rfl) (fun _ _ _ h => h) (Or.inl ⟨by rfl,?_⟩) ?_ ?_
   rotate_left;intro w';go_simp;with_reducible rfl;rotate_left;simp only [Act.put,sA_,sB_,sC_,i64_w,i32_w];rfl
   refine last_ (i:=13) (N:=none) #[t_,t_,t_,t_,t_,t_,t_,t_,t_,t_,t_,t_,t_,t_] rfl rfl (by kernel_rfl) (by decide) (fun K hK => ?_)
   refine skip_ (w1:=?_) (by rfl) rfl ?_ ?_
   rotate_left
   ·go_simp
    rfl
   refine hK.out _ _ ?_
   clear hK K
   refine done_ (by kernel_rfl) ?_
   clear hHeld
   have HROW := Lib.hid hrow
   have hF5 : Fr (fun t => t.1 = k) tagr tag5 wr w5 := ((Fr.refl hokr).al _).dr.trans (hfr.mono (fun t h => by rw [h]))
   have ht5 : tag5 p0 = (k,1,0) := (hF5.same _ hpl).trans HPT.out
   obtain ⟨w6,hw6⟩ : ∃ w6,w6 = w5.setCell ⟨p0,1,none⟩ (.slice (some ⟨g5,0,none⟩) (n + 1) cap5) := ⟨_,rfl⟩
   rw [← hw6]
   have hFs : Fr (fun t => t = (k,1,0)) tag5 tag5 w5 w6 := by rw [hw6]; exact Fr.setCell hF5.dom (a := ⟨p0,1,none⟩) ht5 _
   have hce6 : w6.heap[p0]? = some (.cells #[.int .i64 no,.slice (some ⟨g5,0,none⟩) (n + 1) cap5,.slice IA n icap,.slice none 0 0] 125 (0,0)) := by rw [hw6,Go.Ng.heap_setCell_same hc5.out]; rfl
   have H36 := Lib.hid ((((H3.out.alloc (.cells #[.int .i64 x] 3)).drew.fr hfr (by simp)).fr hFs (by simp)))
   have H26 := Lib.hid (hrow.fr hFs (by simp))
   have HF6 := Lib.hid (hF5.trans (hFs.mono (fun t h => by rw [h])))
   have HCE6 := Lib.hid hce6
   have c2 : w6.cell? ⟨p0,2,none⟩ = some (.slice IA n icap) := cell_of hce6 2
   have cf2 := free_of hce6 2
   have hok6 := hFs.dom
   have HT5 := Lib.hid ht5
   clear hw6 hF5 hFs hce6 hfr hrow d1 f1 e0 c1 ht5
   go_wp2_with (
    at_builtin
    refine append_list rfl (.tmp 47) (.tmp 49) 122 rfl (by rfl) (by rfl) (H36.out.alloc _) (hok6.alloc _) Try.underlying122 hi hz0 hz1 hz2 rfl (by decide) [.int .i64 0,.int .i64 (-1),.slice none 0 0,.slice none 0 0] rfl (news_at (Go.Ng.heap_alloc_at _ _)) (by simp [Value.oneCell']) (by decide) (by unfold maxLen; omega) (by omega) ?_
    intro g7 cap7 w7 tag7 hrow hfr
    have hc7 := hfr.heap (heap_alloc_lt HCE6.out (.cells #[.int .i64 0,.int .i64 (-1),.slice none 0 0,.slice none 0 0] 128)) (by rw [HT5.out]; simp)
    have d2 : w7.cell? ⟨p0,2,none⟩ = some (.slice IA n icap) := cell_of hc7 2
    have df := free_of hc7 2
    have H27 := Lib.hid ((H26.out.alloc (.cells #[.int .i64 0,.int .i64 (-1),.slice none 0 0,.slice none 0 0] 128)).fr hfr (by simp))
    have HF7 := Lib.hid ((HF6.out.trans (Fr.alloc hok6 (.cells #[.int .i64 0,.int .i64 (-1),.slice none 0 0,.slice none 0 0] 128))).trans (hfr.mono (fun t h => by rw [h])))
    have HC7 := Lib.hid hc7
    have HROW7 := Lib.hid hrow
    have HT7 := Lib.hid ((hfr.same _ (by have := lt_of_heap HCE6.out; simp; omega)).trans HT5.out)
    clear hrow hfr hc7)
   go_roundw
   case rel =>
    have hFs : Fr (fun t => t = (k,1,0)) tag7 tag7 w7 (w7.setCell ⟨p0,2,none⟩ (.slice (some ⟨g7,0,none⟩) (n + 1) cap7)) := Fr.setCell HF7.out.dom (a := ⟨p0,2,none⟩) HT7.out _
    refine ⟨n + 1,by omega,by go_num,tag7,Lib.hid ⟨HT7.out,.slice (some ⟨g5,0,none⟩) (n + 1) cap5,.slice (some ⟨g7,0,none⟩) (n + 1) cap7,?_,?_,?_⟩,Lib.hid ((HFr.out.trans HF7.out).trans (hFs.mono (fun t h => by rw [h])))⟩
    ·rw [Go.Ng.heap_setCell_same HC7.out]; rfl
    ·rw [HT.out,ints_snoc]; exact H27.out.fr hFs (by simp)
    ·exact HROW7.out.fr hFs (by simp)
   case measure => simp [intOf]; omega
  ·have hnp : n = l.length := by omega
   subst hnp
   go_wp2_with fail
   go_ret2
   exact ⟨p0,rfl,tagr,HNR.out,(HF3.out.mono (fun _ h => h.elim)).trans HFr.out⟩
structure RNet0 (tag : Nat → Tag) (B : Nat) (w : World) (q : Nat) (l : List Int) (Ps : List Nat) (yv : Value) : Prop where
 ptr : tag q = (B,1,0)
 cells : ∃ pv,w.heap[q]? = some (.cells #[pv,.slice none 0 0,.slice none 0 0,.slice none 0 0,yv,.slice none 0 0] 157 (0,0)) ∧ Row tag (B,2,0) 31 1 w pv Ps.length (Ps.map fun p => .pointer (some ⟨p,0,none⟩))
 places : ∀ (i p : Nat),Ps[i]? = some p → RPlace0 tag (B + 1 + i) w p i l l.length
def runG (g : G) (l : List OpM) : G := l.foldl (fun g o => (doG g o).1) g
def validB (places : Int) (items : List Int) : Bool := decide (1 ≤ places) && decide (places ≤ 32) && rightB items places
structure WorldRd (tag : Nat → Tag) (w : World) (v : Value) (places : Int) (items : List Int) (l : List OpM) : Prop where
 form : ∃ vi vl,v = .agg #[.int .i64 places,vi,vl] ∧ Rd 1 w vi items.length (ints items) ∧ Ext tag w vi ∧ OpsRd tag w vl l
section
variable {tag tag' : Nat → Tag} {w w' : World} {v : Value} {places : Int} {items : List Int} {l : List OpM} {S : Tag → Prop}
theorem WorldRd.fr (h : WorldRd tag w v places items l) (hf : Fr S tag tag' w w') (hS : ∀ t,S t → t.1 ≠ 0) : WorldRd tag' w' v places items l := by
 obtain ⟨vi,vl,h1,h2,h3,h4⟩ := h.form
 exact ⟨vi,vl,h1,h2.ext h3 hf hS,h3.fr hf,h4.fr hf hS⟩
end
def pickC (choices : List Int) (k n : Nat) : Nat :=
 match choices[k]? with
 | some x => ((x.tmod n + n).tmod n).toNat
 | none => 0
def calmN (choices : List Int) (g : G) : Nat → G × List Came
 | 0 => (g,[])
 | k + 1 => ((doL (calmN choices g k).1 (pickC choices k (calmN choices g k).1.fl.length)).1,(calmN choices g k).2 ++ (doL (calmN choices g k).1 (pickC choices k (calmN choices g k).1.fl.length)).2.2.1)
theorem tmod_bd (x : Int) (n : Nat) (h : 0 < n) : -(n : Int) < x.tmod n ∧ x.tmod n < n := by
 constructor
 ·have := Int.tmod_neg x (n : Int)
  rcases Int.le_total 0 x with hx | hx
  ·have := Int.tmod_nonneg (n : Int) hx; omega
  ·have h1 := Int.tmod_lt_of_pos (-x) (show (0 : Int) < n by omega)
   rw [Int.neg_tmod] at h1
   omega
 ·exact Int.tmod_lt_of_pos x (by omega)
theorem pick_bd (x : Int) (n : Nat) (h : 0 < n) : 0 ≤ (x.tmod n + n).tmod n ∧ (x.tmod n + n).tmod n < n := by
 have := tmod_bd x n h
 exact ⟨Int.tmod_nonneg _ (by omega),Int.tmod_lt_of_pos _ (by omega)⟩
theorem pickC_lt (choices : List Int) (k n : Nat) (h : 0 < n) : pickC choices k n < n := by
 unfold pickC
 split
 ·rename_i x _
  have := pick_bd x n h
  omega
 ·exact h
theorem doL_some {g : G} {i : Nat} (h : i < g.fl.length) : ∃ m,g.fl[i]? = some m ∧ doL g i = (g.deliverG i m,0,(g.takeG m).2.2,0) := by
 refine ⟨_,List.getElem?_eq_getElem h,?_⟩
 rw [doL,if_neg (by omega),Int.toNat_natCast,List.getElem?_eq_getElem h]
theorem doL_wt {g : G} (I : NGood g) {i : Nat} (h : i < g.fl.length) : W2.all (doL g i).1 + 1 ≤ W2.all g := by
 obtain ⟨m,hm,hd⟩ := doL_some h
 rw [hd]
 exact wt_deliver W2_ok I hm
theorem sumI_le : ∀ (n : Nat) (f f' : Int → Nat) (c : Nat),(∀ i,f i ≤ c * f' i) → sumI n f ≤ c * sumI n f'
 | 0,_,_,_,_ => by simp [sumI]
 | n + 1,f,f',c,h => by
  have h1 := sumI_le n f f' c h
  have h2 := h n
  rw [sumI,sumI,Nat.mul_add]
  omega
theorem wt_le {g : G} (I : NGood g) : W2.all g ≤ 4 * W1.all g := by
 have h1 : W2.fl g.fl ≤ 4 * W1.fl g.fl := by
  have : ∀ l : List Post,W2.fl l ≤ 4 * W1.fl l := by
   intro l
   induction l with
   | nil => simp [Wt.fl]
   | cons a l ih =>
    simp only [Wt.fl,List.map_cons,List.sum_cons] at *
    have : W2.of a ≤ 4 * W1.of a := by simp only [Wt.of,W1,W2]; split <;> (try split) <;> (try split) <;> (try split) <;> omega
    omega
  exact this _
 have h2 := sumI_le g.np (fun p => W2.pr (g.props p)) (fun p => W1.pr (g.props p)) 4 (fun i => by
  simp only [Wt.pr,W1,W2]; split <;> omega)
 have h3 := sumI_le g.n (fun j => W2.wait * (g.items j).queue.length) (fun j => W1.wait * (g.items j).queue.length) 4 (fun i => by
  simp only [W1,W2]; omega)
 simp only [Wt.all]
 omega
section
variable {tag : Nat → Tag} {w : World} {B : Nat} {N : NetM} {g : G} {K : Nat}
theorem ncalm_ok (choices : List Int) {v : Value} (L : Live tag B w N g K) (hK : K ≤ 150) (hr : Rd 1 w v choices.length (ints choices)) (he : Ext tag w v) (hc : choices.length ≤ 1000000) :
  Calls Try.prog 33 #[.pointer (some ⟨N.ptr,0,none⟩),v] w fun e w' => ∃ (k : Nat) (cv : Value),e = .returned (.tuple #[cv,.int .i64 0]) ∧ (calmN choices g k).1.fl = [] ∧ k ≤ W2.all g ∧
   ∃ (tag' : Nat → Tag) (N' : NetM),Live tag' B w' N' (calmN choices g k).1 K ∧ N'.ptr = N.ptr ∧ Row tag' (B + 33,1,0) 106 3 w' cv (calmN choices g k).2.length (cames (calmN choices g k).2) ∧ Fr (fun t => B ≤ t.1 ∧ t.1 ≤ B + 33) tag tag' w w' := by
 obtain ⟨i0,hi,hz0,hz1,hz2⟩ := info_parts Try.info106
 obtain ⟨CA,ccap,rfl,q1,q2⟩ := hr.slice
 unfold maxLen at q2
 have HR := Lib.hid hr
 have HE := Lib.hid he
 have HL := Lib.hid L
 have hok := L.ok
 have hB0 := L.rep.b0
 have hW : W2.all g ≤ 1000000 := by have := wt_le L.good; have := L.wt; omega
 clear hr he L
 go_enter Try.func33,Try.ntmps33
 go_wp2_with fail
 go_loopw [6,7] (fun a i wr => ∃ k : Nat,k ≤ W2.all g ∧ i = .int .i64 k ∧ ∃ (tagr : Nat → Tag) (M : NetM),Hid (M.ptr = N.ptr) ∧ Hid (Live tagr B wr M (calmN choices g k).1 K) ∧ Hid (k + W2.all (calmN choices g k).1 ≤ W2.all g) ∧ Hid ((calmN choices g k).2.length ≤ k) ∧
  Hid (Row tagr (B + 33,1,0) 106 3 wr a (calmN choices g k).2.length (cames (calmN choices g k).2)) ∧ Hid (Fr (fun t => B ≤ t.1 ∧ t.1 ≤ B + 33) tag tagr w wr)) (fun _ i _ => W2.all g - (intOf i).toNat)
 case atStart => exact ⟨0,Nat.zero_le _,rfl,tag,N,Lib.hid rfl,HL,Lib.hid (by simp [calmN]),Lib.hid (by simp [calmN]),Lib.hid (Row.nil _ _ _ _ _),Lib.hid (Fr.refl hok)⟩
 case round =>
  obtain ⟨k,hk,rfl,tagr,M,HMP,HLr,HW,HLN,HRow,HFr⟩ := hrel
  obtain ⟨gk,hgk⟩ : ∃ x,x = (calmN choices g k).1 := ⟨_,rfl⟩
  obtain ⟨ck,hck⟩ : ∃ x,x = (calmN choices g k).2 := ⟨_,rfl⟩
  rw [← hgk] at HLr HW
  rw [← hck] at HLN HRow
  have HGK := Lib.hid hgk
  have HCK := Lib.hid hck
  clear hgk hck
  obtain ⟨RA,rcap,rfl,_,_⟩ := HRow.out.form
  obtain ⟨FA,fcap,c2'⟩ := flight_cell HLr.out.rep
  rw [HMP.out,HLr.out.abs.fl] at c2'
  have hok1 := HFr.out.dom
  by_cases hz : gk.fl = []
  ·have hz0' : gk.fl.length = 0 := by rw [hz]; rfl
   rw [hz0'] at c2'
   have HZ := Lib.hid hz
   clear hz hz0'
   go_wp2_with fail
   go_ret2
   exact ⟨k,_,rfl,by rw [← HGK.out]; exact HZ.out,hk,tagr,M,by rw [← HGK.out]; exact HLr.out,HMP.out,by rw [← HCK.out]; exact HRow.out,HFr.out⟩
  ·have hlen : 0 < gk.fl.length := List.length_pos_iff.2 hz
   have hfl := HLr.out.fl_len hK
   rw [HLr.out.abs.fl] at hfl
   have hp := pickC_lt choices k _ hlen
   obtain ⟨m,hm,hd⟩ := doL_some hp
   have hwt := doL_wt HLr.out.good hp
   have hcl : (doL gk (pickC choices k gk.fl.length : Int)).2.2.1.length ≤ 1 := by
    rw [hd]
    have hC := takeG_cames (g := gk) m
    generalize (gk.takeG m).1 = g1 at hC
    simp only
    generalize (gk.takeG m).2.2 = cs at hC
    cases hC <;> simp
   have herr : (doL gk (pickC choices k gk.fl.length : Int)).2.2.2 = 0 := by rw [hd]
   have hfl2 := fl_le2 gk
   have hkW : k < W2.all g := by have := HW.out; omega
   have i1 : (0 : Int) < (gk.fl.length : Int) := by omega
   have HCL := Lib.hid hcl
   have HWT := Lib.hid hwt
   have HERR := Lib.hid herr
   have HRr := Lib.hid (HR.out.ext HE.out HFr.out (fun t h => by omega))
   have hckl : ck.length ≤ k := HLN.out
   clear hz hp hm hd hwt hcl herr hfl2
   by_cases hlt : k < choices.length
   ·obtain ⟨x,hx⟩ : ∃ x,choices[k]? = some x := ⟨_,List.getElem?_eq_getElem hlt⟩
    obtain ⟨b,off,cap2,hv,_,_,e0⟩ := Rd.int HRr.out hx
    injection hv with hv _ hv2
    subst hv hv2
    have hbd := tmod_bd x gk.fl.length hlen
    have hbd2 := pick_bd x gk.fl.length hlen
    have hpk : ((pickC choices k gk.fl.length : Nat) : Int) = (x.tmod gk.fl.length + gk.fl.length).tmod gk.fl.length := by
     simp only [pickC,hx]; omega
    have HP := Lib.hid hpk
    have H1 : Hid (IntKind.i64.wrap (x.tmod (gk.fl.length : Int)) = x.tmod (gk.fl.length : Int)) := Lib.hid (IntWalk.i64_in _ (by omega))
    have H2 : Hid (IntKind.i64.wrap (x.tmod (gk.fl.length : Int) + (gk.fl.length : Int)) = x.tmod (gk.fl.length : Int) + (gk.fl.length : Int)) := Lib.hid (IntWalk.i64_in _ (by omega))
    have H3 : Hid (IntKind.i64.wrap ((x.tmod (gk.fl.length : Int) + (gk.fl.length : Int)).tmod (gk.fl.length : Int)) = ((pickC choices k gk.fl.length : Nat) : Int)) := Lib.hid (by rw [hpk]; exact IntWalk.i64_in _ (by omega))
    have h0 : ((gk.fl.length : Int) == 0) = false := by rw [beq_eq_false_iff_ne]; omega
    have i2 : (0 : Int) ≤ (k : Int) := by omega
    have i3 : (k : Int) < (choices.length : Int) := by omega
    clear hx hbd hbd2 hpk
    go_wp2_with fail
    have h1 := H1.out
    have h2 := H2.out
    have h3 := H3.out
    go_quiet (fail)
    simp only [← HP.out]
    have hFq : Fr (fun _ => False) tagr tagr wr (wr.drewN nq) := Fr.drewN hok1 _
    generalize wr.drewN nq = w2 at hFq ⊢
    have HQ := Lib.hid hFq
    clear hFq h1 h2 h3 h0 e0 c2'
    have hokq := HQ.out.dom
    have hD := live_deliver (n:=((pickC choices k gk.fl.length : Nat) : Int)) (HLr.out.frF HQ.out) hK
    rw [HMP.out,HERR.out] at hD
    have HD := Lib.hid hD
    have HRq := Lib.hid (HRow.out.fr HQ.out (fun x => x))
    clear hD
    go_wp2_with (first
    | (
     go_at_call 61
     refine HD.out.mono ?_
     rintro e w5 ⟨cv,rfl,tag5,M',hL5,hp5,hcv,hF5⟩
     obtain ⟨CVA,cvcap,rfl,_,_⟩ := hcv.slice
     have HL5 := Lib.hid hL5
     have HP5 := Lib.hid hp5
     have HCV5 := Lib.hid hcv
     have HF5 := Lib.hid hF5
     have HR5 := Lib.hid (HRq.out.fr hF5 (fun h => by simp only at h; omega))
     clear hL5 hp5 hcv hF5)
    | (
     at_builtin
     refine append_any_list rfl (.tmp 57) (.tmp 58) 37 rfl (by rfl) (by rfl) HR5.out HF5.out.dom Try.underlying37 hi hz0 hz1 hz2 rfl (by decide) HCV5.out (by unfold maxLen; have := HCL.out; omega) (by have := HCL.out; omega) ?_
     intro A6 cap6 w6 tag6 hrow hfr
     have HROW6 := Lib.hid hrow
     have HF6 := Lib.hid hfr
     clear hrow hfr))
    go_roundw
    case rel =>
     have hc1 := HCL.out
     have e1 : (calmN choices g (k + 1)).1 = (doL gk ((pickC choices k gk.fl.length : Nat) : Int)).1 := by rw [HGK.out]; rfl
     have e2 : (calmN choices g (k + 1)).2 = ck ++ (doL gk ((pickC choices k gk.fl.length : Nat) : Int)).2.2.1 := by rw [HGK.out,HCK.out]; rfl
     refine ⟨k + 1,by omega,by go_num,tag6,M',Lib.hid (HP5.out.trans HMP.out),Lib.hid ?_,Lib.hid ?_,Lib.hid ?_,Lib.hid ?_,Lib.hid (((HFr.out.trans (HQ.out.mono (fun _ h => h.elim))).trans (HF5.out.mono (fun t h => by omega))).trans (HF6.out.mono (fun t h => by rw [h]; simp)))⟩
     ·rw [e1]; exact HL5.out.fr HF6.out (fun t h => by rw [h]; simp)
     ·have := HWT.out; have := HW.out; rw [e1]; omega
     ·rw [e2,List.length_append]; omega
     ·rw [e2,List.length_append,show cames (ck ++ (doL gk ((pickC choices k gk.fl.length : Nat) : Int)).2.2.1) = cames ck ++ cames (doL gk ((pickC choices k gk.fl.length : Nat) : Int)).2.2.1 from by simp [cames]]
      exact HROW6.out
    case measure => simp [intOf]; omega
   ·have i3 : (choices.length : Int) ≤ (k : Int) := by omega
    have hpk : pickC choices k gk.fl.length = 0 := by simp [pickC,List.getElem?_eq_none (show choices.length ≤ k by omega)]
    have HP := Lib.hid hpk
    have HQ : Hid (Fr (fun _ => False) tagr tagr wr wr) := Lib.hid (Fr.refl hok1)
    clear hpk
    have hokq := HQ.out.dom
    have hD := live_deliver (n:=((pickC choices k gk.fl.length : Nat) : Int)) (HLr.out.frF HQ.out) hK
    rw [HMP.out,HERR.out,show (Value.int .i64 ((pickC choices k gk.fl.length : Nat) : Int)) = .int .i64 0 from by rw [HP.out]; rfl] at hD
    have HD := Lib.hid hD
    have HRq := Lib.hid (HRow.out.fr HQ.out (fun x => x))
    clear hD
    go_wp2_with (first
    | (
     go_at_call 61
     refine HD.out.mono ?_
     rintro e w5 ⟨cv,rfl,tag5,M',hL5,hp5,hcv,hF5⟩
     obtain ⟨CVA,cvcap,rfl,_,_⟩ := hcv.slice
     have HL5 := Lib.hid hL5
     have HP5 := Lib.hid hp5
     have HCV5 := Lib.hid hcv
     have HF5 := Lib.hid hF5
     have HR5 := Lib.hid (HRq.out.fr hF5 (fun h => by simp only at h; omega))
     clear hL5 hp5 hcv hF5)
    | (
     at_builtin
     refine append_any_list rfl (.tmp 57) (.tmp 58) 37 rfl (by rfl) (by rfl) HR5.out HF5.out.dom Try.underlying37 hi hz0 hz1 hz2 rfl (by decide) HCV5.out (by unfold maxLen; have := HCL.out; omega) (by have := HCL.out; omega) ?_
     intro A6 cap6 w6 tag6 hrow hfr
     have HROW6 := Lib.hid hrow
     have HF6 := Lib.hid hfr
     clear hrow hfr))
    go_roundw
    case rel =>
     have hc1 := HCL.out
     have e1 : (calmN choices g (k + 1)).1 = (doL gk ((pickC choices k gk.fl.length : Nat) : Int)).1 := by rw [HGK.out]; rfl
     have e2 : (calmN choices g (k + 1)).2 = ck ++ (doL gk ((pickC choices k gk.fl.length : Nat) : Int)).2.2.1 := by rw [HGK.out,HCK.out]; rfl
     refine ⟨k + 1,by omega,by go_num,tag6,M',Lib.hid (HP5.out.trans HMP.out),Lib.hid ?_,Lib.hid ?_,Lib.hid ?_,Lib.hid ?_,Lib.hid (((HFr.out.trans (HQ.out.mono (fun _ h => h.elim))).trans (HF5.out.mono (fun t h => by omega))).trans (HF6.out.mono (fun t h => by rw [h]; simp)))⟩
     ·rw [e1]; exact HL5.out.fr HF6.out (fun t h => by rw [h]; simp)
     ·have := HWT.out; have := HW.out; rw [e1]; omega
     ·rw [e2,List.length_append]; omega
     ·rw [e2,List.length_append,show cames (ck ++ (doL gk ((pickC choices k gk.fl.length : Nat) : Int)).2.2.1) = cames ck ++ cames (doL gk ((pickC choices k gk.fl.length : Nat) : Int)).2.2.1 from by simp [cames]]
      exact HROW6.out
    case measure => simp [intOf]; omega
end
structure LiveP (tag : Nat → Tag) (B : Nat) (w : World) (p : Nat) (g : G) (k : Nat) : Prop where
 net : ∃ N : NetM,N.ptr = p ∧ Live tag B w N g k
structure DidP (tag : Nat → Tag) (B : Nat) (w : World) (p : Nat) (k : Nat) (r : G × Int × List Came × Int) (cv : Value) (w' : World) : Prop where
 did : ∃ tag' : Nat → Tag,LiveP tag' B w' p r.1 k ∧ Rd 3 w' cv r.2.2.1.length (cames r.2.2.1) ∧ Fr (fun t => B ≤ t.1 ∧ t.1 ≤ B + 32) tag tag' w w'
section
variable {tag tag' : Nat → Tag} {w w' : World} {B p k : Nat} {g : G} {S : Tag → Prop}
theorem LiveP.good (L : LiveP tag B w p g k) : NGood g := by obtain ⟨N,_,h⟩ := L.net; exact h.good
theorem LiveP.ok (L : LiveP tag B w p g k) : TagOk tag w := by obtain ⟨N,_,h⟩ := L.net; exact h.ok
theorem LiveP.b0 (L : LiveP tag B w p g k) : B ≠ 0 := by obtain ⟨N,_,h⟩ := L.net; exact h.rep.b0
theorem LiveP.np (L : LiveP tag B w p g k) : g.np ≤ k := by obtain ⟨N,_,h⟩ := L.net; exact h.np
theorem LiveP.n64 (L : LiveP tag B w p g k) : g.n ≤ 64 := by obtain ⟨N,_,h⟩ := L.net; exact h.abs.n64
theorem LiveP.fl (L : LiveP tag B w p g k) (hk : k ≤ 150) : g.fl.length ≤ 9750 := by obtain ⟨N,_,h⟩ := L.net; rw [← h.abs.fl]; exact h.fl_len hk
theorem LiveP.fr (L : LiveP tag B w p g k) (hf : Fr S tag tag' w w') (hS : ∀ t,S t → t.1 < B ∨ B + 32 < t.1) : LiveP tag' B w' p g k := by obtain ⟨N,h1,h⟩ := L.net; exact ⟨N,h1,h.fr hf hS⟩
theorem LiveP.frF (L : LiveP tag B w p g k) (hf : Fr (fun _ => False) tag tag' w w') : LiveP tag' B w' p g k := L.fr hf (fun _ h => h.elim)
theorem LiveP.more (L : LiveP tag B w p g k) {k' : Nat} (h : k ≤ k') : LiveP tag B w p g k' := by obtain ⟨N,h1,h2⟩ := L.net; exact ⟨N,h1,h2.more h⟩
theorem Did.toP {N : NetM} {r : G × Int × List Came × Int} {cv : Value} (h : Did tag B w N k r cv w') : DidP tag B w N.ptr k r cv w' := by
 obtain ⟨tag',N',h1,h2,h3,h4⟩ := h
 exact ⟨tag',⟨N',h2,h1⟩,h3,h4⟩
theorem p_propose {n : Int} {l : List Clm} {v : Value} (L : LiveP tag B w p g k) (hk : k < 150) (hr : RdX tag w v l) :
  Calls Try.prog 55 #[.pointer (some ⟨p,0,none⟩),.int .i64 n,v] w fun e w' => ∃ cv,e = .returned (.tuple #[.int .i64 (doP g n l).2.1,cv,.int .i64 (doP g n l).2.2.2]) ∧ DidP tag B w p (k + 1) (doP g n l) cv w' := by
 obtain ⟨N,rfl,h⟩ := L.net
 exact (live_propose' h hk hr).mono fun e w' ⟨cv,h1,h2⟩ => ⟨cv,h1,h2.toP⟩
theorem p_drop {n : Int} (L : LiveP tag B w p g k) (hk : k < 150) :
  Calls Try.prog 52 #[.pointer (some ⟨p,0,none⟩),.int .i64 n] w fun e w' => e = .returned (.int .i64 (doD g n).2.2.2) ∧ DidP tag B w p (k + 1) (doD g n) (.slice none 0 0) w' := by
 obtain ⟨N,rfl,h⟩ := L.net
 exact (live_drop h hk).mono fun e w' ⟨h1,h2⟩ => ⟨h1,h2.toP⟩
theorem p_deliver {n : Int} (L : LiveP tag B w p g k) (hk : k ≤ 150) :
  Calls Try.prog 61 #[.pointer (some ⟨p,0,none⟩),.int .i64 n] w fun e w' => ∃ cv,e = .returned (.tuple #[cv,.int .i64 (doL g n).2.2.2]) ∧ DidP tag B w p k (doL g n) cv w' := by
 obtain ⟨N,rfl,h⟩ := L.net
 exact (live_deliver h hk).mono fun e w' ⟨cv,h1,h2⟩ => ⟨cv,h1,h2.toP⟩
theorem p_new {v : Value} (B places : Nat) (l : List Int) (hr : Rd 1 w v l.length (ints l)) (he : Ext tag w v) (hok : TagOk tag w) (hB : B ≠ 0) (hp1 : 1 ≤ places) (hp2 : places ≤ 32) (hl : rightB l places = true) :
  Calls Try.prog 29 #[.int .i64 (places : Int),v] w fun e w' => ∃ p : Nat,e = .returned (.tuple #[.pointer (some ⟨p,0,none⟩),.int .i64 0]) ∧ ∃ tag',LiveP tag' B w' p (beginG places l) 0 ∧ Fr (fun t => B ≤ t.1 ∧ t.1 ≤ B + 32) tag tag' w w' :=
 (new_ok B places l hr he hok hB hp1 hp2 hl).mono fun e w' ⟨N,h1,tag',h2,h3⟩ => ⟨N.ptr,h1,tag',⟨N,rfl,h2⟩,h3⟩
theorem p_calm (choices : List Int) {v : Value} (L : LiveP tag B w p g k) (hk : k ≤ 150) (hr : Rd 1 w v choices.length (ints choices)) (he : Ext tag w v) (hc : choices.length ≤ 1000000) :
  Calls Try.prog 33 #[.pointer (some ⟨p,0,none⟩),v] w fun e w' => ∃ (m : Nat) (cv : Value),e = .returned (.tuple #[cv,.int .i64 0]) ∧ (calmN choices g m).1.fl = [] ∧ m ≤ W2.all g ∧
   ∃ tag' : Nat → Tag,LiveP tag' B w' p (calmN choices g m).1 k ∧ Row tag' (B + 33,1,0) 106 3 w' cv (calmN choices g m).2.length (cames (calmN choices g m).2) ∧ Fr (fun t => B ≤ t.1 ∧ t.1 ≤ B + 33) tag tag' w w' := by
 obtain ⟨N,rfl,h⟩ := L.net
 exact (ncalm_ok choices h hk hr he hc).mono fun e w' ⟨m,cv,h1,h2,h3,tag',N',h4,h5,h6,h7⟩ => ⟨m,cv,h1,h2,h3,tag',⟨N',h5,h4⟩,h6,h7⟩
def holdI (x : It) : Int := match x.hold with | some q => q | none => -1
theorem p_version {j : Nat} (L : LiveP tag B w p g k) (hj : j < g.n) :
  Calls Try.prog 50 #[.pointer (some ⟨p,0,none⟩),.int .i64 (j : Int)] w fun e w' => e = .returned (.tuple #[.int .i64 (g.items j).ver,.int .i64 0]) ∧ Fr (fun _ => False) tag tag w w' := by
 obtain ⟨N,rfl,h⟩ := L.net
 obtain ⟨q,P,it,h1,h2,h3,h4,h5,h6⟩ := h.abs.at_item hj
 rw [h5.ver]
 exact nversion_ok (i:=0) h.rep h.ok h2 h3 h4
theorem p_holder {j : Nat} (L : LiveP tag B w p g k) (hj : j < g.n) :
  Calls Try.prog 41 #[.pointer (some ⟨p,0,none⟩),.int .i64 (j : Int)] w fun e w' => e = .returned (.tuple #[.int .i64 (holdI (g.items j)),.int .i64 0]) ∧ Fr (fun _ => False) tag tag w w' := by
 obtain ⟨N,rfl,h⟩ := L.net
 obtain ⟨q,P,it,h1,h2,h3,h4,h5,h6⟩ := h.abs.at_item hj
 have e : holdI (g.items j) = if it.held = true then it.lk.prop else -1 := by
  rw [holdI,h5.hold]; by_cases e : it.held = true <;> simp [e]
 rw [e]
 exact nholder_ok h.rep h.ok h2 h3 h4
theorem tag_max (tag : Nat → Tag) : ∀ n : Nat,∃ M : Int,∀ b,b < n → (tag b).2.2 < M
 | 0 => ⟨0,fun b hb => by omega⟩
 | n + 1 => by
  obtain ⟨M,h⟩ := tag_max tag n
  refine ⟨max M ((tag n).2.2 + 1),fun b hb => ?_⟩
  by_cases e : b = n
  ·subst e; omega
  ·have := h b (by omega); omega
theorem p_waits {j : Nat} (r : Nat) (hr : r ≠ 0) (L : LiveP tag B w p g k) (hj : j < g.n) (hk : k ≤ 150) :
  Calls Try.prog 40 #[.pointer (some ⟨p,0,none⟩),.int .i64 (j : Int)] w fun e w' => ∃ v,e = .returned (.tuple #[v,.int .i64 0]) ∧ ∃ (tag' : Nat → Tag) (i : Int),Row tag' (r,0,i) 3 1 w' v (g.items j).queue.length (ints (g.items j).queue) ∧ Fr (fun _ => False) tag tag' w w' := by
 obtain ⟨N,rfl,h⟩ := L.net
 obtain ⟨q,P,it,h1,h2,h3,h4,h5,h6⟩ := h.abs.at_item hj
 obtain ⟨M,hM⟩ := tag_max tag w.heap.size
 have hq := queue_len h.good (j : Int)
 have hnp := h.np
 rw [h5.queue,List.length_map] at hq
 refine (nwaits_ok (t := (r,0,M)) h.rep h.ok h2 h3 h4 (by omega) hr (fun b hb e => ?_)).mono fun e w' ⟨v,h7,tag',h8,h9⟩ => ⟨v,h7,tag',M,?_,h9⟩
 ·have := hM b hb; rw [e] at this; simp at this
 ·rw [h5.queue,List.length_map]; exact h8
theorem p_history {j : Nat} (t : Tag) (L : LiveP tag B w p g k) (hj : j < g.n) (hk : k ≤ 150) :
  Calls Try.prog 49 #[.pointer (some ⟨p,0,none⟩),.int .i64 (j : Int)] w fun e w' => ∃ v,e = .returned (.tuple #[v,.int .i64 0]) ∧ ∃ tag',Row tag' t 3 1 w' v (g.items j).hist.length (ints (g.items j).hist) ∧ Fr (fun _ => False) tag tag' w w' := by
 obtain ⟨N,rfl,h⟩ := L.net
 obtain ⟨q,P,it,h1,h2,h3,h4,h5,h6⟩ := h.abs.at_item hj
 have hq := hist_len h.good (j : Int)
 have hnp := h.np
 exact nhistory_ok t h.rep h.ok h2 h3 h6 (by omega)
theorem p_flight (t : Tag) (L : LiveP tag B w p g k) (hk : k ≤ 150) :
  Calls Try.prog 42 #[.pointer (some ⟨p,0,none⟩)] w fun e w' => ∃ v,e = .returned v ∧ ∃ tag',Row tag' t 49 6 w' v g.fl.length (posts g.fl) ∧ Fr (fun _ => False) tag tag' w w' := by
 obtain ⟨N,rfl,h⟩ := L.net
 have := h.fl_len hk
 rw [← h.abs.fl]
 exact flight_ok t h.rep h.ok (by omega)
theorem p_status {n : Nat} (L : LiveP tag B w p g k) (hn : n < g.np) :
  Calls Try.prog 38 #[.pointer (some ⟨p,0,none⟩),.int .i64 (n : Int)] w fun e w' => e = .returned (.tuple #[.int .i64 (g.props n).st,.int .i64 0]) ∧ Fr (fun _ => False) tag tag w w' := by
 obtain ⟨N,rfl,h⟩ := L.net
 obtain ⟨q,P,x,h1,h2,h3,h4,h5,h6,h7,h8⟩ := h.abs.at_prop hn
 rw [← h7]
 exact nstatus_ok h.rep h.ok (by rw [h.abs.clen]; exact hn) h2 h3 h4
end
theorem claim_ok {tag : Nat → Tag} {w : World} (a b : Int) (hok : TagOk tag w) : Calls Try.prog 54 #[.int .i64 a,.int .i64 b] w fun e w' => e = .returned (.agg #[.int .i64 a,.int .i64 b]) ∧ Fr (fun _ => False) tag tag w w' := by
 go_enter Try.func54,Try.ntmps54
 go_wp2_with fail
 refine bodyPost_ret (v:=.agg #[.int .i64 a,.int .i64 b]) (by simp [results,Try.results54,go_sem]) rfl ⟨rfl,Fr.alloc hok _⟩
theorem post63_ok {tag : Nat → Tag} {w : World} (k p i s d : Int) (hok : TagOk tag w) : Calls Try.prog 63 #[.int .i64 k,.int .i64 p,.int .i64 i,.int .i64 s,.int .i64 d] w fun e w' => e = .returned (.agg #[.int .i64 k,.int .i64 s,.int .i64 d,.int .i64 p,.int .i64 i,.int .i64 0]) ∧ Fr (fun _ => False) tag tag w w' := by
 go_enter Try.func63,Try.ntmps63
 go_wp2_with fail
 refine bodyPost_ret (v:=.agg #[.int .i64 k,.int .i64 s,.int .i64 d,.int .i64 p,.int .i64 i,.int .i64 0]) (by simp [results,Try.results63,go_sem]) rfl ⟨rfl,Fr.alloc hok _⟩
theorem calmN_stop {choices : List Int} {g : G} {k : Nat} (h : (calmN choices g k).1.fl = []) : ∀ m,calmN choices g (k + m) = calmN choices g k
 | 0 => rfl
 | m + 1 => by
  have ih := calmN_stop h m
  show calmN choices g (k + m + 1) = _
  have hd : ∀ i : Nat,doL (calmN choices g k).1 i = ((calmN choices g k).1,0,[],272) := fun i => by rw [doL,if_pos (by rw [h]; simp)]
  rw [calmN,ih,hd]
  simp
theorem calmN_same {choices : List Int} {g : G} {a b : Nat} (ha : (calmN choices g a).1.fl = []) (hb : (calmN choices g b).1.fl = []) : calmN choices g a = calmN choices g b := by
 rcases Nat.le_total a b with h | h
 ·have := calmN_stop ha (b - a); rw [show a + (b - a) = b by omega] at this; exact this.symm
 ·have := calmN_stop hb (a - b); rw [show b + (a - b) = a by omega] at this; exact this
theorem lit_rd {sz : Nat} (w : World) (cs : Array Value) (E n : Nat) (hs : cs.size = n * sz) (h1 : ∀ u ∈ cs.toList,u.oneCell' = true) (hn : n ≤ 1000) : Rd sz (w.alloc (.cells cs E)) (.slice (some ⟨w.heap.size,0,none⟩) n n) n cs.toList := by
 refine ⟨by simpa using hs,h1,.inr ⟨w.heap.size,0,n,rfl,Nat.le_refl _,by unfold maxLen; omega,fun j u hu => ?_⟩⟩
 rw [cell_of (Go.Ng.heap_alloc_at w _),Nat.zero_add]
 simpa using hu
theorem lit_ext {tag : Nat → Tag} {w : World} (hok : TagOk tag w) (o : Obj) (n : Nat) : Ext tag (w.alloc o) (.slice (some ⟨w.heap.size,0,none⟩) n n) := fun b off m cap hv => by
 injection hv with hv
 injection hv with hv
 injection hv with hv
 subst hv
 exact ⟨hok.new,by simp⟩
def gs0 : G := beginG 2 [0,1]
def gs1 : G := (doP gs0 0 [⟨0,0⟩,⟨1,0⟩]).1
def gs2 : G := (doL gs1 0).1
def gs3 : G := (doP gs2 1 [⟨0,0⟩]).1
def gs4 : G := (doL gs3 1).1
def gs5 : G := (doL gs4 0).1
def gs6 : G := (doL gs5 0).1
def gs7 : G := (doL gs6 0).1
def gs8 : G := (doL gs7 0).1
def gs9 : G := (calmN [] gs8 2).1
def gs10 : G := (doP gs9 0 []).1
def gs11 : G := (doP gs10 2 [⟨0,0⟩]).1
def gs12 : G := (doL gs11 7).1
theorem f1 : (doP gs0 0 [⟨0,0⟩,⟨1,0⟩]).2.1 = 0 ∧ (doP gs0 0 [⟨0,0⟩,⟨1,0⟩]).2.2.2 = 0 ∧ gs1.fl = [⟨1,0,0,0,0,0⟩] := by refine ⟨?_,?_,?_⟩ <;> kernel_rfl
theorem f2 : (doL gs1 0).2.2.1 = [] ∧ (doL gs1 0).2.2.2 = 0 ∧ gs2.fl = [⟨2,0,0,0,0,0⟩] ∧ holdI (gs2.items (0 : Nat)) = 0 ∧ gs2.n = 2 := by refine ⟨?_,?_,?_,?_,?_⟩ <;> kernel_rfl
theorem f3 : (doP gs2 1 [⟨0,0⟩]).2.1 = 1 ∧ (doP gs2 1 [⟨0,0⟩]).2.2.2 = 0 := by refine ⟨?_,?_⟩ <;> kernel_rfl
theorem f4 : (doL gs3 1).2.2.2 = 0 ∧ (gs4.items (0 : Nat)).queue = [1] ∧ gs4.fl.length = 1 ∧ gs4.n = 2 := by refine ⟨?_,?_,?_,?_⟩ <;> kernel_rfl
theorem f5 : (doL gs4 0).2.2.1 = [] ∧ (doL gs4 0).2.2.2 = 0 := by refine ⟨?_,?_⟩ <;> kernel_rfl
theorem f6 : (doL gs5 0).2.2.1 = [] ∧ (doL gs5 0).2.2.2 = 0 := by refine ⟨?_,?_⟩ <;> kernel_rfl
theorem f7 : (doL gs6 0).2.2.1 = [⟨1,0,-1⟩] ∧ (doL gs6 0).2.2.2 = 0 ∧ gs7.fl = [⟨4,0,0,0,0,0⟩,⟨4,0,1,0,1,0⟩] := by refine ⟨?_,?_,?_⟩ <;> kernel_rfl
theorem f8 : (doL gs7 0).2.2.1 = [⟨3,0,0⟩] ∧ (doL gs7 0).2.2.2 = 0 ∧ gs8.fl = [⟨4,0,1,0,1,0⟩,⟨3,0,1,1,0,0⟩] := by refine ⟨?_,?_,?_⟩ <;> kernel_rfl
theorem f9 : (calmN [] gs8 2).1.fl = [] ∧ (calmN [] gs8 2).2 = [⟨3,0,1⟩,⟨2,1,-1⟩] ∧ gs9.np = 2 ∧ gs9.n = 2 ∧ (gs9.props (1 : Nat)).st = 3 ∧ (gs9.items (1 : Nat)).ver = 1 ∧ (gs9.items (0 : Nat)).hist = [0] := by refine ⟨?_,?_,?_,?_,?_,?_,?_⟩ <;> kernel_rfl
theorem f10 : (doP gs9 0 []).2.1 = 0 ∧ (doP gs9 0 []).2.2.2 = 270 ∧ (doP gs10 2 [⟨0,0⟩]).2.1 = 0 ∧ (doP gs10 2 [⟨0,0⟩]).2.2.2 = 271 ∧ (doL gs11 7).2.2.2 = 272 ∧ (doD gs12 0).2.2.2 = 273 := by refine ⟨?_,?_,?_,?_,?_,?_⟩ <;> kernel_rfl
theorem sane_ok {tag : Nat → Tag} {w : World} (B : Nat) (hok : TagOk tag w) (hB : B ≠ 0) :
  Calls Try.prog 16 #[] w fun e w' => e = .returned (.bool true) ∧ ∃ tag',Fr (fun t => B ≤ t.1 ∧ t.1 ≤ B + 40) tag tag' w w' ∧ TagOk tag' w' := by
 go_enter Try.func16,Try.ntmps16
 go_wp2_with fail
 refine Calls.mono (p_new B 2 [0,1] (lit_rd w #[.int .i64 0,.int .i64 1] 3 2 rfl (by simp [Value.oneCell']) (by decide)) (lit_ext hok _ 2) (hok.alloc _) hB (by decide) (by decide) (by kernel_rfl)) ?_
 rintro e w0 ⟨p,rfl,T0,hL,hF⟩
 have HL0 := Lib.hid (show LiveP T0 B w0 p gs0 0 from hL)
 have HX0 : Hid (Fr (fun t => B ≤ t.1 ∧ t.1 ≤ B + 40) tag T0 w w0) := Lib.hid ((Fr.alloc hok (.cells #[.int .i64 0,.int .i64 1] 3)).trans (hF.mono (fun t h => by omega)))
 clear hL hF
 go_wp2_with fail
 refine Calls.mono (claim_ok (tag := T0) 0 0 HL0.out.ok) ?_
 rintro e w1 ⟨rfl,hF⟩
 have HL1 := Lib.hid (HL0.out.frF hF)
 have HX1 := Lib.hid (HX0.out.trans (hF.mono (fun _ h => h.elim)))
 clear hF
 go_wp2_with fail
 refine Calls.mono (claim_ok (tag := T0) 1 0 HL1.out.ok) ?_
 rintro e w2 ⟨rfl,hF⟩
 have HL2 := Lib.hid (HL1.out.frF hF)
 have HX2 := Lib.hid (HX1.out.trans (hF.mono (fun _ h => h.elim)))
 clear hF
 have hA3 : Fr (fun _ => False) T0 T0 w2 (w2.alloc (.cells #[.int .i64 0,.int .i64 0,.int .i64 1,.int .i64 0] 69)) := Fr.alloc HL2.out.ok _
 have HX3a := Lib.hid (HX2.out.trans (hA3.mono (fun _ h => h.elim)))
 clear hA3
 go_wp2_with fail
 refine Calls.mono (p_propose (n:=0) (l := [⟨0,0⟩,⟨1,0⟩]) (HL2.out.frF (Fr.alloc HL2.out.ok (.cells #[.int .i64 0,.int .i64 0,.int .i64 1,.int .i64 0] 69))) (by decide) (.inl ⟨lit_rd _ #[.int .i64 0,.int .i64 0,.int .i64 1,.int .i64 0] 69 2 rfl (by simp [Value.oneCell']) (by decide),lit_ext HL2.out.ok _ 2⟩)) ?_
 rintro e w3 ⟨cv3,rfl,hD⟩
 obtain ⟨T3,hL,hcv,hF⟩ := hD.did
 rw [f1.1,f1.2.1]
 have HL3 := Lib.hid (show LiveP T3 B w3 p gs1 _ from hL)
 have HX3 := Lib.hid (HX3a.out.trans (hF.mono (fun t h => by omega)))
 clear hL hF hD hcv
 go_wp2_with fail
 refine Calls.mono (p_flight (B + 40,1,0) HL3.out (by omega)) ?_
 rintro e w4 ⟨v4,rfl,T4,hrow,hF⟩
 rw [f1.2.2] at hrow
 have HR4 := Lib.hid (hrow.rd (posts_one' _))
 clear hrow
 have HL4 := Lib.hid (HL3.out.frF hF)
 have HX4 := Lib.hid (HX3.out.trans (hF.mono (fun _ h => h.elim)))
 clear hF
 go_wp2_with fail
 refine Calls.mono (post63_ok (tag := T4) (1) (0) (0) (0) (0) HL4.out.ok) ?_
 rintro e w5 ⟨rfl,hF⟩
 have HL5 := Lib.hid (HL4.out.frF hF)
 have HX5 := Lib.hid (HX4.out.trans (hF.mono (fun _ h => h.elim)))
 have HR4_5 := Lib.hid (HR4.out.frF hF)
 clear hF
 go_wp2_with fail
 refine Calls.mono (samePosts_ok (tag := T4) [⟨1,0,0,0,0,0⟩] (HR4_5.out.frF (Fr.alloc HL5.out.ok _)) (lit_rd _ #[.int .i64 1,.int .i64 0,.int .i64 0,.int .i64 0,.int .i64 0,.int .i64 0] 49 1 rfl (by simp [Value.oneCell']) (by decide)) (HL5.out.ok.alloc _) (by decide)) ?_
 rintro e w6 ⟨rfl,hF⟩
 replace hF := (Fr.alloc HL5.out.ok (.cells #[.int .i64 1,.int .i64 0,.int .i64 0,.int .i64 0,.int .i64 0,.int .i64 0] 49)).trans hF
 have HL6 := Lib.hid (HL5.out.frF hF)
 have HX6 := Lib.hid (HX5.out.trans (hF.mono (fun _ h => h.elim)))
 have HR4_6 := Lib.hid (HR4_5.out.frF hF)
 clear hF
 go_wp2_with fail
 refine Calls.mono (p_deliver (n:=0) HL6.out (by decide)) ?_
 rintro e w7 ⟨cv7,rfl,hD⟩
 obtain ⟨T7,hL,hcv,hF⟩ := hD.did
 rw [f2.2.1]
 rw [f2.1] at hcv
 have HC7 := Lib.hid hcv
 obtain ⟨A7,c7,h7,_,_⟩ := hcv.slice
 simp only [List.length_nil,List.length_cons,Nat.zero_add] at h7
 subst h7
 have HL7 := Lib.hid (show LiveP T7 B w7 p gs2 _ from hL)
 have HX7 := Lib.hid (HX6.out.trans (hF.mono (fun t h => by omega)))
 clear hL hF hD hcv
 go_wp2_with fail
 refine Calls.mono (p_holder (j:=0) HL7.out (by have := f2.2.2.2.2; omega)) ?_
 rintro e w8 ⟨rfl,hF⟩
 rw [f2.2.2.2.1]
 have HL8 := Lib.hid (HL7.out.frF hF)
 have HX8 := Lib.hid (HX7.out.trans (hF.mono (fun _ h => h.elim)))
 have HC7_8 := Lib.hid (HC7.out.frF hF)
 clear hF
 go_wp2_with fail
 refine Calls.mono (p_flight (B + 40,1,0) HL8.out (by omega)) ?_
 rintro e w9 ⟨v9,rfl,T9,hrow,hF⟩
 rw [f2.2.2.1] at hrow
 have HR9 := Lib.hid (hrow.rd (posts_one' _))
 clear hrow
 have HL9 := Lib.hid (HL8.out.frF hF)
 have HX9 := Lib.hid (HX8.out.trans (hF.mono (fun _ h => h.elim)))
 clear hF
 go_wp2_with fail
 refine Calls.mono (post63_ok (tag := T9) (2) (0) (0) (0) (0) HL9.out.ok) ?_
 rintro e w10 ⟨rfl,hF⟩
 have HL10 := Lib.hid (HL9.out.frF hF)
 have HX10 := Lib.hid (HX9.out.trans (hF.mono (fun _ h => h.elim)))
 have HR9_10 := Lib.hid (HR9.out.frF hF)
 clear hF
 go_wp2_with fail
 refine Calls.mono (samePosts_ok (tag := T9) [⟨2,0,0,0,0,0⟩] (HR9_10.out.frF (Fr.alloc HL10.out.ok _)) (lit_rd _ #[.int .i64 2,.int .i64 0,.int .i64 0,.int .i64 0,.int .i64 0,.int .i64 0] 49 1 rfl (by simp [Value.oneCell']) (by decide)) (HL10.out.ok.alloc _) (by decide)) ?_
 rintro e w11 ⟨rfl,hF⟩
 replace hF := (Fr.alloc HL10.out.ok (.cells #[.int .i64 2,.int .i64 0,.int .i64 0,.int .i64 0,.int .i64 0,.int .i64 0] 49)).trans hF
 have HL11 := Lib.hid (HL10.out.frF hF)
 have HX11 := Lib.hid (HX10.out.trans (hF.mono (fun _ h => h.elim)))
 have HR9_11 := Lib.hid (HR9_10.out.frF hF)
 clear hF
 go_wp2_with fail
 refine Calls.mono (claim_ok (tag := T9) 0 0 HL11.out.ok) ?_
 rintro e w12 ⟨rfl,hF⟩
 have HL12 := Lib.hid (HL11.out.frF hF)
 have HX12 := Lib.hid (HX11.out.trans (hF.mono (fun _ h => h.elim)))
 clear hF
 have hA13 : Fr (fun _ => False) T9 T9 w12 (w12.alloc (.cells #[.int .i64 0,.int .i64 0] 69)) := Fr.alloc HL12.out.ok _
 have HX13a := Lib.hid (HX12.out.trans (hA13.mono (fun _ h => h.elim)))
 clear hA13
 go_wp2_with fail
 refine Calls.mono (p_propose (n:=1) (l := [⟨0,0⟩]) (HL12.out.frF (Fr.alloc HL12.out.ok (.cells #[.int .i64 0,.int .i64 0] 69))) (by decide) (.inl ⟨lit_rd _ #[.int .i64 0,.int .i64 0] 69 1 rfl (by simp [Value.oneCell']) (by decide),lit_ext HL12.out.ok _ 1⟩)) ?_
 rintro e w13 ⟨cv13,rfl,hD⟩
 obtain ⟨T13,hL,hcv,hF⟩ := hD.did
 rw [f3.1,f3.2]
 have HL13 := Lib.hid (show LiveP T13 B w13 p gs3 _ from hL)
 have HX13 := Lib.hid (HX13a.out.trans (hF.mono (fun t h => by omega)))
 clear hL hF hD hcv
 go_wp2_with fail
 refine Calls.mono (p_deliver (n:=1) HL13.out (by decide)) ?_
 rintro e w14 ⟨cv14,rfl,hD⟩
 obtain ⟨T14,hL,hcv,hF⟩ := hD.did
 rw [f4.1]
 have HL14 := Lib.hid (show LiveP T14 B w14 p gs4 _ from hL)
 have HX14 := Lib.hid (HX13.out.trans (hF.mono (fun t h => by omega)))
 clear hL hF hD hcv
 go_wp2_with fail
 refine Calls.mono (p_waits (j:=0) (B + 41) (by omega) HL14.out (by have := f4.2.2.2; omega) (by decide)) ?_
 rintro e w15 ⟨v15,rfl,T15,i15,hrow,hF⟩
 rw [f4.2.1] at hrow
 have HR15 := Lib.hid (hrow.rd (ints_one _))
 clear hrow
 have HL15 := Lib.hid (HL14.out.frF hF)
 have HX15 := Lib.hid (HX14.out.trans (hF.mono (fun _ h => h.elim)))
 clear hF
 go_wp2_with fail
 refine Calls.mono (equalInts_ok (tag := T15) [1] (HR15.out.frF (Fr.alloc HL15.out.ok _)) (lit_rd _ #[.int .i64 1] 3 1 rfl (by simp [Value.oneCell']) (by decide)) (HL15.out.ok.alloc _) (by decide)) ?_
 rintro e w16 ⟨rfl,hF⟩
 replace hF := (Fr.alloc HL15.out.ok (.cells #[.int .i64 1] 3)).trans hF
 have HL16 := Lib.hid (HL15.out.frF hF)
 have HX16 := Lib.hid (HX15.out.trans (hF.mono (fun _ h => h.elim)))
 have HR15_16 := Lib.hid (HR15.out.frF hF)
 clear hF
 go_wp2_with fail
 refine Calls.mono (p_flight (B + 40,1,0) HL16.out (by decide)) ?_
 rintro e w17 ⟨v17,rfl,T17,hrow,hF⟩
 obtain ⟨A17,c17,h17,_,_⟩ := hrow.form
 rw [f4.2.2.1] at h17
 subst h17
 clear hrow
 have HL17 := Lib.hid (HL16.out.frF hF)
 have HX17 := Lib.hid (HX16.out.trans (hF.mono (fun _ h => h.elim)))
 clear hF
 go_wp2_with fail
 go_loopw [125] (fun i wr => ∃ n : Nat,n ≤ 2 ∧ i = .int .i64 n ∧ ∃ Tr : Nat → Tag,Hid (LiveP Tr B wr p (if n = 0 then gs4 else if n = 1 then gs5 else gs6) 2) ∧ Hid (Fr (fun t => B ≤ t.1 ∧ t.1 ≤ B + 40) tag Tr w wr)) (fun i _ => 2 - (intOf i).toNat)
 case atStart => exact ⟨0,by omega,rfl,_,HL17,HX17⟩
 case round =>
  obtain ⟨n,hn,rfl,Tr,HLr,HXr⟩ := hrel
  rcases (show n = 0 ∨ n = 1 ∨ n = 2 by omega) with rfl | rfl | rfl
  ·have HLq := Lib.hid (show LiveP Tr B wr p gs4 2 from HLr.out)
   go_wp2_with fail
   refine Calls.mono (p_deliver (n:=0) HLq.out (by decide)) ?_
   rintro e w5 ⟨cv,rfl,hD⟩
   obtain ⟨T5,hL,hcv,hF⟩ := hD.did
   rw [f5.2]
   rw [f5.1] at hcv
   obtain ⟨A5,c5,h5,_,_⟩ := hcv.slice
   simp only [List.length_nil] at h5
   subst h5
   have HL5 := Lib.hid (show LiveP T5 B w5 p gs5 2 from hL)
   have HX5 := Lib.hid (HXr.out.trans (hF.mono (fun t h => by omega)))
   clear hL hF hD hcv
   go_wp2_with fail
   go_roundw
   case rel => exact ⟨1,by omega,by go_num,T5,HL5,HX5⟩
   case measure => simp [intOf]
  ·have HLq := Lib.hid (show LiveP Tr B wr p gs5 2 from HLr.out)
   go_wp2_with fail
   refine Calls.mono (p_deliver (n:=0) HLq.out (by decide)) ?_
   rintro e w5 ⟨cv,rfl,hD⟩
   obtain ⟨T5,hL,hcv,hF⟩ := hD.did
   rw [f6.2]
   rw [f6.1] at hcv
   obtain ⟨A5,c5,h5,_,_⟩ := hcv.slice
   simp only [List.length_nil] at h5
   subst h5
   have HL5 := Lib.hid (show LiveP T5 B w5 p gs6 2 from hL)
   have HX5 := Lib.hid (HXr.out.trans (hF.mono (fun t h => by omega)))
   clear hL hF hD hcv
   go_wp2_with fail
   go_roundw
   case rel => exact ⟨2,by omega,by go_num,T5,HL5,HX5⟩
   case measure => simp [intOf]
  ·have HL90 := Lib.hid (show LiveP Tr B wr p gs6 2 from HLr.out)
   have HX90 := HXr
   clear HLr HXr
   go_wp2_with fail
   refine Calls.mono (p_deliver (n:=0) HL90.out (by decide)) ?_
   rintro e w91 ⟨cv91,rfl,hD⟩
   obtain ⟨T91,hL,hcv,hF⟩ := hD.did
   rw [f7.2.1]
   rw [f7.1] at hcv
   have HC91 := Lib.hid hcv
   obtain ⟨A91,c91,h91,_,_⟩ := hcv.slice
   simp only [List.length_nil,List.length_cons,Nat.zero_add] at h91
   subst h91
   have HL91 := Lib.hid (show LiveP T91 B w91 p gs7 _ from hL)
   have HX91 := Lib.hid (HX90.out.trans (hF.mono (fun t h => by omega)))
   clear hL hF hD hcv
   go_wp2_with fail
   refine Calls.mono (sameCame_ok (tag := T91) [⟨1,0,-1⟩] (HC91.out.frF (Fr.alloc HL91.out.ok _)) (lit_rd _ #[.int .i64 1,.int .i64 0,.int .i64 (-1)] 106 1 rfl (by simp [Value.oneCell']) (by decide)) (HL91.out.ok.alloc _) (by decide)) ?_
   rintro e w92 ⟨rfl,hF⟩
   replace hF := (Fr.alloc HL91.out.ok (.cells #[.int .i64 1,.int .i64 0,.int .i64 (-1)] 106)).trans hF
   have HL92 := Lib.hid (HL91.out.frF hF)
   have HX92 := Lib.hid (HX91.out.trans (hF.mono (fun _ h => h.elim)))
   have HC91_92 := Lib.hid (HC91.out.frF hF)
   clear hF
   go_wp2_with fail
   refine Calls.mono (p_flight (B + 40,1,0) HL92.out (by omega)) ?_
   rintro e w93 ⟨v93,rfl,T93,hrow,hF⟩
   rw [f7.2.2] at hrow
   have HR93 := Lib.hid (hrow.rd (posts_one' _))
   clear hrow
   have HL93 := Lib.hid (HL92.out.frF hF)
   have HX93 := Lib.hid (HX92.out.trans (hF.mono (fun _ h => h.elim)))
   clear hF
   go_wp2_with fail
   refine Calls.mono (post63_ok (tag := T93) (4) (0) (0) (0) (0) HL93.out.ok) ?_
   rintro e w94 ⟨rfl,hF⟩
   have HL94 := Lib.hid (HL93.out.frF hF)
   have HX94 := Lib.hid (HX93.out.trans (hF.mono (fun _ h => h.elim)))
   have HR93_94 := Lib.hid (HR93.out.frF hF)
   clear hF
   go_wp2_with fail
   refine Calls.mono (post63_ok (tag := T93) (4) (0) (1) (0) (1) HL94.out.ok) ?_
   rintro e w95 ⟨rfl,hF⟩
   have HL95 := Lib.hid (HL94.out.frF hF)
   have HX95 := Lib.hid (HX94.out.trans (hF.mono (fun _ h => h.elim)))
   have HR93_95 := Lib.hid (HR93_94.out.frF hF)
   clear hF
   go_wp2_with fail
   refine Calls.mono (samePosts_ok (tag := T93) [⟨4,0,0,0,0,0⟩,⟨4,0,1,0,1,0⟩] (HR93_95.out.frF (Fr.alloc HL95.out.ok _)) (lit_rd _ #[.int .i64 4,.int .i64 0,.int .i64 0,.int .i64 0,.int .i64 0,.int .i64 0,.int .i64 4,.int .i64 0,.int .i64 1,.int .i64 0,.int .i64 1,.int .i64 0] 49 2 rfl (by simp [Value.oneCell']) (by decide)) (HL95.out.ok.alloc _) (by decide)) ?_
   rintro e w96 ⟨rfl,hF⟩
   replace hF := (Fr.alloc HL95.out.ok (.cells #[.int .i64 4,.int .i64 0,.int .i64 0,.int .i64 0,.int .i64 0,.int .i64 0,.int .i64 4,.int .i64 0,.int .i64 1,.int .i64 0,.int .i64 1,.int .i64 0] 49)).trans hF
   have HL96 := Lib.hid (HL95.out.frF hF)
   have HX96 := Lib.hid (HX95.out.trans (hF.mono (fun _ h => h.elim)))
   have HR93_96 := Lib.hid (HR93_95.out.frF hF)
   clear hF
   go_wp2_with fail
   refine Calls.mono (p_deliver (n:=0) HL96.out (by decide)) ?_
   rintro e w97 ⟨cv97,rfl,hD⟩
   obtain ⟨T97,hL,hcv,hF⟩ := hD.did
   rw [f8.2.1]
   rw [f8.1] at hcv
   have HC97 := Lib.hid hcv
   obtain ⟨A97,c97,h97,_,_⟩ := hcv.slice
   simp only [List.length_nil,List.length_cons,Nat.zero_add] at h97
   subst h97
   have HL97 := Lib.hid (show LiveP T97 B w97 p gs8 _ from hL)
   have HX97 := Lib.hid (HX96.out.trans (hF.mono (fun t h => by omega)))
   clear hL hF hD hcv
   go_wp2_with fail
   refine Calls.mono (sameCame_ok (tag := T97) [⟨3,0,0⟩] (HC97.out.frF (Fr.alloc HL97.out.ok _)) (lit_rd _ #[.int .i64 3,.int .i64 0,.int .i64 0] 106 1 rfl (by simp [Value.oneCell']) (by decide)) (HL97.out.ok.alloc _) (by decide)) ?_
   rintro e w98 ⟨rfl,hF⟩
   replace hF := (Fr.alloc HL97.out.ok (.cells #[.int .i64 3,.int .i64 0,.int .i64 0] 106)).trans hF
   have HL98 := Lib.hid (HL97.out.frF hF)
   have HX98 := Lib.hid (HX97.out.trans (hF.mono (fun _ h => h.elim)))
   have HC97_98 := Lib.hid (HC97.out.frF hF)
   clear hF
   go_wp2_with fail
   refine Calls.mono (p_flight (B + 40,1,0) HL98.out (by omega)) ?_
   rintro e w99 ⟨v99,rfl,T99,hrow,hF⟩
   rw [f8.2.2] at hrow
   have HR99 := Lib.hid (hrow.rd (posts_one' _))
   clear hrow
   have HL99 := Lib.hid (HL98.out.frF hF)
   have HX99 := Lib.hid (HX98.out.trans (hF.mono (fun _ h => h.elim)))
   clear hF
   go_wp2_with fail
   refine Calls.mono (post63_ok (tag := T99) (4) (0) (1) (0) (1) HL99.out.ok) ?_
   rintro e w100 ⟨rfl,hF⟩
   have HL100 := Lib.hid (HL99.out.frF hF)
   have HX100 := Lib.hid (HX99.out.trans (hF.mono (fun _ h => h.elim)))
   have HR99_100 := Lib.hid (HR99.out.frF hF)
   clear hF
   go_wp2_with fail
   refine Calls.mono (post63_ok (tag := T99) (3) (1) (0) (0) (1) HL100.out.ok) ?_
   rintro e w101 ⟨rfl,hF⟩
   have HL101 := Lib.hid (HL100.out.frF hF)
   have HX101 := Lib.hid (HX100.out.trans (hF.mono (fun _ h => h.elim)))
   have HR99_101 := Lib.hid (HR99_100.out.frF hF)
   clear hF
   go_wp2_with fail
   refine Calls.mono (samePosts_ok (tag := T99) [⟨4,0,1,0,1,0⟩,⟨3,0,1,1,0,0⟩] (HR99_101.out.frF (Fr.alloc HL101.out.ok _)) (lit_rd _ #[.int .i64 4,.int .i64 0,.int .i64 1,.int .i64 0,.int .i64 1,.int .i64 0,.int .i64 3,.int .i64 0,.int .i64 1,.int .i64 1,.int .i64 0,.int .i64 0] 49 2 rfl (by simp [Value.oneCell']) (by decide)) (HL101.out.ok.alloc _) (by decide)) ?_
   rintro e w102 ⟨rfl,hF⟩
   replace hF := (Fr.alloc HL101.out.ok (.cells #[.int .i64 4,.int .i64 0,.int .i64 1,.int .i64 0,.int .i64 1,.int .i64 0,.int .i64 3,.int .i64 0,.int .i64 1,.int .i64 1,.int .i64 0,.int .i64 0] 49)).trans hF
   have HL102 := Lib.hid (HL101.out.frF hF)
   have HX102 := Lib.hid (HX101.out.trans (hF.mono (fun _ h => h.elim)))
   have HR99_102 := Lib.hid (HR99_101.out.frF hF)
   clear hF
   go_wp2_with fail
   refine Calls.mono (p_calm [] (v:=.slice none 0 0) HL102.out (by decide) ⟨rfl,by simp [ints],.inl ⟨rfl,rfl⟩⟩ (fun b off m cap h => by cases h) (by decide)) ?_
   rintro e w103 ⟨m,cv103,rfl,hfl,_,T103,hL,hrow,hF⟩
   have hm := calmN_same hfl f9.1
   rw [hm] at hL hrow
   rw [f9.2.1] at hrow
   have HL103 := Lib.hid (show LiveP T103 B w103 p gs9 2 from hL)
   have HX103 := Lib.hid (HX102.out.trans (hF.mono (fun t h => by omega)))
   have HC103 := Lib.hid (hrow.rd (cames_one _))
   clear hL hF hrow hm hfl
   go_wp2_with fail
   refine Calls.mono (p_status (n:=1) HL103.out (by have := f9.2.2.1; omega)) ?_
   rintro e w104 ⟨rfl,hF⟩
   rw [f9.2.2.2.2.1]
   have HL104 := Lib.hid (HL103.out.frF hF)
   have HX104 := Lib.hid (HX103.out.trans (hF.mono (fun _ h => h.elim)))
   have HC103_104 := Lib.hid (HC103.out.frF hF)
   clear hF
   go_wp2_with fail
   refine Calls.mono (p_version (j:=1) HL104.out (by have := f9.2.2.2.1; omega)) ?_
   rintro e w105 ⟨rfl,hF⟩
   rw [f9.2.2.2.2.2.1]
   have HL105 := Lib.hid (HL104.out.frF hF)
   have HX105 := Lib.hid (HX104.out.trans (hF.mono (fun _ h => h.elim)))
   have HC103_105 := Lib.hid (HC103_104.out.frF hF)
   clear hF
   go_wp2_with fail
   refine Calls.mono (p_history (j:=0) (B + 40,2,0) HL105.out (by have := f9.2.2.2.1; omega) (by decide)) ?_
   rintro e w106 ⟨v106,rfl,T106,hrow,hF⟩
   rw [f9.2.2.2.2.2.2] at hrow
   have HR106 := Lib.hid (hrow.rd (ints_one _))
   clear hrow
   have HL106 := Lib.hid (HL105.out.frF hF)
   have HX106 := Lib.hid (HX105.out.trans (hF.mono (fun _ h => h.elim)))
   have HC103_106 := Lib.hid (HC103_105.out.frF hF)
   clear hF
   go_wp2_with fail
   refine Calls.mono (sameCame_ok (tag := T106) [⟨3,0,1⟩,⟨2,1,-1⟩] (HC103_106.out.frF (Fr.alloc HL106.out.ok _)) (lit_rd _ #[.int .i64 3,.int .i64 0,.int .i64 1,.int .i64 2,.int .i64 1,.int .i64 (-1)] 106 2 rfl (by simp [Value.oneCell']) (by decide)) (HL106.out.ok.alloc _) (by decide)) ?_
   rintro e w107 ⟨rfl,hF⟩
   replace hF := (Fr.alloc HL106.out.ok (.cells #[.int .i64 3,.int .i64 0,.int .i64 1,.int .i64 2,.int .i64 1,.int .i64 (-1)] 106)).trans hF
   have HL107 := Lib.hid (HL106.out.frF hF)
   have HX107 := Lib.hid (HX106.out.trans (hF.mono (fun _ h => h.elim)))
   have HC103_107 := Lib.hid (HC103_106.out.frF hF)
   have HR106_107 := Lib.hid (HR106.out.frF hF)
   clear hF
   go_wp2_with fail
   refine Calls.mono (equalInts_ok (tag := T106) [0] (HR106_107.out.frF (Fr.alloc HL107.out.ok _)) (lit_rd _ #[.int .i64 0] 3 1 rfl (by simp [Value.oneCell']) (by decide)) (HL107.out.ok.alloc _) (by decide)) ?_
   rintro e w108 ⟨rfl,hF⟩
   replace hF := (Fr.alloc HL107.out.ok (.cells #[.int .i64 0] 3)).trans hF
   have HL108 := Lib.hid (HL107.out.frF hF)
   have HX108 := Lib.hid (HX107.out.trans (hF.mono (fun _ h => h.elim)))
   have HR106_108 := Lib.hid (HR106_107.out.frF hF)
   clear hF
   go_wp2_with fail
   refine Calls.mono (p_propose (n:=0) (l := []) HL108.out (by decide) (.inr ⟨rfl,none,0,rfl,by decide⟩)) ?_
   rintro e w109 ⟨cv109,rfl,hD⟩
   obtain ⟨T109,hL,hcv,hF⟩ := hD.did
   rw [f10.1,f10.2.1]
   have HL109 := Lib.hid (show LiveP T109 B w109 p gs10 _ from hL)
   have HX109 := Lib.hid (HX108.out.trans (hF.mono (fun t h => by omega)))
   clear hL hF hD hcv
   go_wp2_with fail
   refine Calls.mono (claim_ok (tag := T109) 0 0 HL109.out.ok) ?_
   rintro e w110 ⟨rfl,hF⟩
   have HL110 := Lib.hid (HL109.out.frF hF)
   have HX110 := Lib.hid (HX109.out.trans (hF.mono (fun _ h => h.elim)))
   clear hF
   have hA111 : Fr (fun _ => False) T109 T109 w110 (w110.alloc (.cells #[.int .i64 0,.int .i64 0] 69)) := Fr.alloc HL110.out.ok _
   have HX111a := Lib.hid (HX110.out.trans (hA111.mono (fun _ h => h.elim)))
   clear hA111
   go_wp2_with fail
   refine Calls.mono (p_propose (n:=2) (l := [⟨0,0⟩]) (HL110.out.frF (Fr.alloc HL110.out.ok (.cells #[.int .i64 0,.int .i64 0] 69))) (by decide) (.inl ⟨lit_rd _ #[.int .i64 0,.int .i64 0] 69 1 rfl (by simp [Value.oneCell']) (by decide),lit_ext HL110.out.ok _ 1⟩)) ?_
   rintro e w111 ⟨cv111,rfl,hD⟩
   obtain ⟨T111,hL,hcv,hF⟩ := hD.did
   rw [f10.2.2.1,f10.2.2.2.1]
   have HL111 := Lib.hid (show LiveP T111 B w111 p gs11 _ from hL)
   have HX111 := Lib.hid (HX111a.out.trans (hF.mono (fun t h => by omega)))
   clear hL hF hD hcv
   go_wp2_with fail
   refine Calls.mono (p_deliver (n:=7) HL111.out (by decide)) ?_
   rintro e w112 ⟨cv112,rfl,hD⟩
   obtain ⟨T112,hL,hcv,hF⟩ := hD.did
   rw [f10.2.2.2.2.1]
   have HL112 := Lib.hid (show LiveP T112 B w112 p gs12 _ from hL)
   have HX112 := Lib.hid (HX111.out.trans (hF.mono (fun t h => by omega)))
   clear hL hF hD hcv
   go_wp2_with fail
   refine Calls.mono (p_drop (n:=0) HL112.out (by decide)) ?_
   rintro e w113 ⟨rfl,hD⟩
   obtain ⟨T113,hL,_,hF⟩ := hD.did
   rw [f10.2.2.2.2.2]
   have HX113 := Lib.hid (HX112.out.trans (hF.mono (fun t h => by omega)))
   have HK113 := Lib.hid hL.ok
   clear hL hF hD
   go_wp2_with fail
   go_ret
   exact ⟨rfl,T113,HX113.out,HK113.out⟩
end Go.Proofs.Ytclkokkppgchfaa
namespace Go.Proofs.Ytclkokkppgchfaa
open Go.ChangeShapes Go.WideShapes Go.ChangeAt Go.RowKit Go.Joins Go.Deep Go.Ng
theorem Try.own : ownKnob Try.prog.godebug = none := by kernel_rfl
theorem Try.laidOut : laidOutB Try.prog = true := by kernel_rfl
def tag0 : Nat → Tag := fun _ => (0,0,0)
theorem tag0_ok (w : World) : TagOk tag0 w := fun b h => absurd rfl h
theorem cell_addr {w : World} {a : Addr} {v : Value} (h : w.cell? a = some v) : a = ⟨a.block,a.off,none⟩ ∧ a.block < w.heap.size := by
 refine ⟨?_,World.block_lt_of_cell? w a h⟩
 obtain ⟨b,o,s⟩ := a
 cases s with
 | none => rfl
 | some s =>
  unfold World.cell? at h
  simp only at h
  split at h
  ·simp at h
  ·cases h
theorem has_addr {P : Program} {w : World} {r : Reach} {base n : Nat} {a : Addr} {e : TypeId} (h : w.has P r base a e n) : a = ⟨a.block,a.off,none⟩ ∧ a.block < w.heap.size := by
 obtain ⟨_,h1,row,cells,h2,_⟩ := h
 refine ⟨by obtain ⟨b,o,s⟩ := a; simp at h1; subst h1; rfl,?_⟩
 unfold World.shape? at h2
 rcases Nat.lt_or_ge a.block w.heap.size with h | h
 ·exact h
 ·rw [Array.getElem?_eq_none h] at h2; cases h2
theorem slice_addr {P : Program} {w : World} {r : Reach} {base len cap : Nat} {T E : TypeId} {a : Addr} (ht : P.underlying T = some (.slice E)) (h : Cell.okWide P w r base T (.slice (some a) len cap)) : a = ⟨a.block,a.off,none⟩ ∧ a.block < w.heap.size := by
 simp only [Cell.okWide,ht,Cell.ok] at h
 exact has_addr h.2.2
theorem list_of {α : Type} {Q : Nat → α → Prop} : ∀ (n : Nat),(∀ i < n,∃ x,Q i x) → ∃ l : List α,l.length = n ∧ ∀ i x,l[i]? = some x → Q i x
 | 0,_ => ⟨[],rfl,fun i x h => by simp at h⟩
 | n + 1,h => by
  obtain ⟨l,h1,h2⟩ := list_of n (fun i hi => h i (by omega))
  obtain ⟨x,hx⟩ := h n (by omega)
  refine ⟨l ++ [x],by simp [h1],fun i y hy => ?_⟩
  rw [List.getElem?_append] at hy
  split at hy
  ·exact h2 i y hy
  ·have : i = n := by
    by_cases e : i - l.length = 0
    ·omega
    ·rw [List.getElem?_eq_none (by simp; omega)] at hy; cases hy
   subst this
   rw [h1] at hy
   simp at hy
   subst hy
   exact hx
theorem flat_cells {α : Type} {enc : α → List Value} {sz : Nat} {w : World} {b off : Nat} {l : List α} (hl : ∀ x,(enc x).length = sz) (hsz : 0 < sz)
  (h : ∀ i x,l[i]? = some x → ∀ r u,(enc x)[r]? = some u → w.cell? ⟨b,off + (i * sz + r),none⟩ = some u) : ∀ j u,(l.flatMap enc)[j]? = some u → w.cell? ⟨b,off + j,none⟩ = some u := by
 intro j u hu
 have hlen := flat_len enc sz hl l
 have hj := (List.getElem?_eq_some_iff.1 hu).1
 rw [hlen] at hj
 have hi : j / sz < l.length := Nat.div_lt_of_lt_mul (by rw [Nat.mul_comm]; exact hj)
 have hr : j % sz < sz := Nat.mod_lt _ hsz
 have hx : l[j / sz]? = some l[j / sz] := List.getElem?_eq_getElem hi
 have hg := flat_get enc sz hl (j % sz) hr l (j / sz) _ hx
 have hjj : j / sz * sz + j % sz = j := Nat.div_add_mod' j sz
 rw [hjj] at hg
 rw [hg] at hu
 have := h _ _ hx _ _ hu
 rwa [hjj] at this
section
variable {H : Type} {enc : TypeId × Value → H} {w : World} {base base0 : Nat} {spare : Nat → Bool} {held : Bool}
theorem ext0 {v : Value} (h : ∀ b off m cap,v = .slice (some ⟨b,off,none⟩) m cap → b < w.heap.size) : Ext tag0 w v := fun b off m cap hv => ⟨rfl,h b off m cap hv⟩
theorem open_intsRd {fuel : Nat} {v : Value} {x : DataW H × List MemPlace} (h : DataW.trod enc Try.prog w base spare held fuel 22 [v] = some x) (ho : Cell.okWide Try.prog w .any base0 22 v) :
  ∃ l : List Int,Rd 1 w v l.length (ints l) ∧ Ext tag0 w v := by
 rcases open_ints Try.underlying22 Try.underlying3 (by kernel_rfl) h with ⟨hcs,_⟩ | ⟨a,len,cap,zs,hcs,_,hl,hm,hz,_,hcell,_⟩
 ·simp at hcs
  subst hcs
  exact ⟨[],⟨rfl,by simp [ints],.inl ⟨rfl,rfl⟩⟩,fun b off m cap h => by cases h⟩
 ·simp at hcs
  subst hcs
  obtain ⟨ha,hb⟩ := slice_addr Try.underlying22 ho
  generalize a.block = b at ha hb
  generalize a.off = off at ha
  subst ha
  have hzl : len ≤ zs.length := by rw [hz]; split <;> omega
  have hll : (zs.take len).length = len := by rw [List.length_take]; omega
  refine ⟨zs.take len,⟨by simp [ints],ints_one _,.inr ⟨b,off,cap,by rw [hll],by rw [hll]; exact hl,hm,fun j u hu => ?_⟩⟩,ext0 fun b' off' m cap' hv => by injection hv with hv; injection hv with hv; injection hv with hv; subst hv; exact hb⟩
  have hj : j < len := by have := (List.getElem?_eq_some_iff.1 hu).1; simp [ints] at this; omega
  have := hcell j (by omega)
  rw [add_lit] at this
  rw [this]
  rw [ints,List.getElem?_map,List.getElem?_take,if_pos hj] at hu
  rw [List.getElem?_eq_getElem (by omega)] at hu
  rw [← hu]
  simp [List.getD_eq_getElem?_getD,List.getElem?_eq_getElem (show j < zs.length by omega)]
theorem open_slice_fields {P : Program} {t e : TypeId} {fs : Array Field} {fuel : Nat} {cs : List Value} {x : DataW H × List MemPlace} (ht : P.underlying t = some (.slice e)) (he : P.underlying e = some (.struct fs))
  (hone : oneCellFields P fs = true) (hC : P.cellsOf e = fs.size) (h : DataW.trod enc P w base spare held fuel t cs = some x) :
  (cs = [.slice none 0 0] ∧ x = (.nil,[])) ∨
  ∃ (a : Addr) (len cap m : Nat),cs = [.slice (some a) len cap] ∧ len ≤ cap ∧ cap ≤ maxLen ∧ len ≤ m ∧
   ∀ i,i < m → ∃ n : Nat,∀ (j : Nat) (f : Field),fs[j]? = some f → ∃ (v : Value) (y : DataW H × List MemPlace),w.cell? (a.add (i * fs.size + j)) = some v ∧ DataW.trod enc P w base spare held n f.type [v] = some y := by
 rcases Go.Deep.open_slice ht h with h0 | ⟨a,len,cap,m,n,D,Pl,hcs,hb,hl,hm,hmm,hx,hi⟩
 ·exact .inl h0
 ·refine .inr ⟨a,len,cap,m,hcs,hl,hm,by rw [hmm]; split <;> omega,fun i him => ?_⟩
  obtain ⟨cs',hc,ht'⟩ := hi i him
  rw [hC] at hc
  obtain ⟨ys,n',hn',hy,hlen,hyl,hf⟩ := DataW.trod_struct he ht'
  obtain ⟨_,hcl,hat⟩ := World.cells?_some hc
  refine ⟨n',fun j f hj => ?_⟩
  obtain ⟨ho,hk⟩ := hone_of hone j f hj
  have hjl : j < fs.size := (Array.getElem?_eq_some_iff.1 hj).1
  have hcell := hat j hjl
  have hv : cs'[j]? = some (cs'[j]'(by omega)) := List.getElem?_eq_getElem (by omega)
  have h1 := hf j f hj
  rw [ho,hk] at h1
  have hone' : (cs'.drop j).take 1 = [cs'[j]'(by omega)] := by
   rw [List.drop_eq_getElem_cons (by omega)]
   rfl
  rw [hone'] at h1
  have hys : ys[j]? = some (ys[j]'(by omega)) := List.getElem?_eq_getElem (by omega)
  refine ⟨_,_,?_,h1.trans hys⟩
  rw [← Go.Deep.add_add,hcell,hv]
theorem Try.under69 : ∃ f0 f1,Try.prog.underlying 69 = some (.struct #[f0,f1]) ∧ f0.type = 3 ∧ f1.type = 3 ∧ oneCellFields Try.prog #[f0,f1] = true ∧ Try.prog.cellsOf 69 = 2 := ⟨_,_,Try.underlying69,by kernel_rfl,by kernel_rfl,by kernel_rfl,by kernel_rfl⟩
theorem Try.under36 : ∃ f0 f1 f2,Try.prog.underlying 36 = some (.struct #[f0,f1,f2]) ∧ f0.type = 3 ∧ f1.type = 3 ∧ f2.type = 34 ∧ oneCellFields Try.prog #[f0,f1,f2] = true ∧ Try.prog.cellsOf 36 = 3 := ⟨_,_,_,Try.underlying36,by kernel_rfl,by kernel_rfl,by kernel_rfl,by kernel_rfl,by kernel_rfl⟩
theorem open_claims {fuel : Nat} {v : Value} {x : DataW H × List MemPlace} (h : DataW.trod enc Try.prog w base spare held fuel 34 [v] = some x) : ∃ l : List Clm,RdX tag0 w v l := by
 obtain ⟨f0,f1,hu,t0,t1,hone,hC⟩ := Try.under69
 rcases open_slice_fields Try.underlying34 hu hone hC h with ⟨hcs,_⟩ | ⟨a,len,cap,m,hcs,hl,hm,hlm,hf⟩
 ·simp at hcs
  subst hcs
  exact ⟨[],.inr ⟨rfl,none,0,rfl,Nat.zero_le _⟩⟩
 ·simp at hcs
  subst hcs
  have hx : ∀ i < len,∃ c : Clm,w.cell? (a.add (i * 2)) = some (.int .i64 c.item) ∧ w.cell? (a.add (i * 2 + 1)) = some (.int .i64 c.version) := by
   intro i hi
   obtain ⟨n,hn⟩ := hf i (by omega)
   obtain ⟨v0,y0,c0,d0⟩ := hn 0 f0 rfl
   obtain ⟨v1,y1,c1,d1⟩ := hn 1 f1 rfl
   rw [t0] at d0
   rw [t1] at d1
   obtain ⟨n0,e0,_⟩ := DataW.trod_int Try.underlying3 d0
   obtain ⟨n1,e1,_⟩ := DataW.trod_int Try.underlying3 d1
   simp at e0 e1
   subst e0 e1
   exact ⟨⟨n0,n1⟩,c0,c1⟩
  obtain ⟨l,hll,hlx⟩ := list_of len hx
  rcases Nat.eq_zero_or_pos len with rfl | hpos
  ·exact ⟨[],.inr ⟨rfl,some a,cap,rfl,hm⟩⟩
  ·obtain ⟨c,hc,_⟩ := hx 0 hpos
   have : a.add (0 * 2) = a := by simp [Addr.add]
   rw [this] at hc
   obtain ⟨ha,hb⟩ := cell_addr hc
   generalize a.block = b at ha hb
   generalize a.off = off at ha
   subst ha
   refine ⟨l,.inl ⟨⟨flat_len _ 2 (fun _ => rfl) l,claims_one l,.inr ⟨b,off,cap,by rw [hll],by rw [hll]; exact hl,hm,flat_cells (sz := 2) (fun _ => rfl) (by decide) (fun i x hx r u hu => ?_)⟩⟩,ext0 fun b' off' m cap' hv => by injection hv with hv; injection hv with hv; injection hv with hv; subst hv; exact hb⟩⟩
   obtain ⟨k0,k1⟩ := hlx i x hx
   rw [add_lit] at k0 k1
   match r with
   | 0 => simp [Clm.cells] at hu; subst hu; exact k0
   | 1 => simp [Clm.cells] at hu; subst hu; exact k1
   | r + 2 => simp [Clm.cells] at hu
theorem open_ops {fuel : Nat} {v : Value} {x : DataW H × List MemPlace} (h : DataW.trod enc Try.prog w base spare held fuel 23 [v] = some x) (ho : Cell.okWide Try.prog w .any base0 23 v) : ∃ l : List OpM,OpsRd tag0 w v l := by
 obtain ⟨f0,f1,f2,hu,t0,t1,t2,hone,hC⟩ := Try.under36
 rcases open_slice_fields Try.underlying23 hu hone hC h with ⟨hcs,_⟩ | ⟨a,len,cap,m,hcs,hl,hm,hlm,hf⟩
 ·simp at hcs
  subst hcs
  exact ⟨[],⟨⟨[],rfl,⟨rfl,by simp,.inl ⟨rfl,rfl⟩⟩,by simp⟩,fun b off m cap h => by cases h⟩⟩
 ·simp at hcs
  subst hcs
  obtain ⟨ha,hb⟩ := slice_addr Try.underlying23 ho
  generalize a.block = b at ha hb
  generalize a.off = off at ha
  subst ha
  have hx : ∀ i < len,∃ c : OpM × Value,w.cell? ⟨b,off + (i * 3),none⟩ = some (.int .i64 c.1.kind) ∧ w.cell? ⟨b,off + (i * 3 + 1),none⟩ = some (.int .i64 c.1.n) ∧ w.cell? ⟨b,off + (i * 3 + 2),none⟩ = some c.2 ∧ RdX tag0 w c.2 c.1.claims := by
   intro i hi
   obtain ⟨n,hn⟩ := hf i (by omega)
   obtain ⟨v0,y0,c0,d0⟩ := hn 0 f0 rfl
   obtain ⟨v1,y1,c1,d1⟩ := hn 1 f1 rfl
   obtain ⟨v2,y2,c2,d2⟩ := hn 2 f2 rfl
   rw [t0] at d0
   rw [t1] at d1
   rw [t2] at d2
   obtain ⟨n0,e0,_⟩ := DataW.trod_int Try.underlying3 d0
   obtain ⟨n1,e1,_⟩ := DataW.trod_int Try.underlying3 d1
   obtain ⟨cl,hcl⟩ := open_claims d2
   simp at e0 e1
   subst e0 e1
   rw [add_lit] at c0 c1 c2
   exact ⟨(⟨n0,n1,cl⟩,v2),c0,c1,c2,hcl⟩
  obtain ⟨xs,hll,hlx⟩ := list_of len hx
  have hlm : (xs.map (·.1)).length = len := by simp [hll]
  refine ⟨xs.map (·.1),⟨⟨xs,rfl,⟨by rw [flat_len _ 3 (fun _ => rfl) xs,hlm,hll],?_,.inr ⟨b,off,cap,by rw [hlm],by rw [hlm]; exact hl,hm,flat_cells (sz := 3) (fun _ => rfl) (by decide) (fun i x hx r u hu => ?_)⟩⟩,fun x hx => ?_⟩,ext0 fun b' off' m cap' hv => by injection hv with hv; injection hv with hv; injection hv with hv; subst hv; exact hb⟩⟩
  ·intro u hu
   simp only [List.mem_flatMap] at hu
   obtain ⟨y,hy,hu⟩ := hu
   obtain ⟨i,hi⟩ := List.getElem?_of_mem hy
   obtain ⟨A,c,hs,_⟩ := (hlx i y hi).2.2.2.slice
   simp [opCells] at hu
   rcases hu with rfl | rfl | rfl
   ·rfl
   ·rfl
   ·rw [hs]; rfl
  ·obtain ⟨k0,k1,k2,_⟩ := hlx i x hx
   match r with
   | 0 => simp [opCells] at hu; subst hu; exact k0
   | 1 => simp [opCells] at hu; subst hu; exact k1
   | 2 => simp [opCells] at hu; subst hu; exact k2
   | r + 3 => simp [opCells] at hu
  ·obtain ⟨i,hi⟩ := List.getElem?_of_mem hx
   exact (hlx i x hi).2.2.2
end
end Go.Proofs.Ytclkokkppgchfaa
