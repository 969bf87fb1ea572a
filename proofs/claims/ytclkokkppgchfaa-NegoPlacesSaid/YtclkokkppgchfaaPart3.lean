/- A part of the proof: texts of this session, joined. -/
import Derived.Test.YtclkokkppgchfaaPart1
import Derived.Test.YtclkokkppgchfaaWLast
import Derived.Deep.RegionHeld3
import Derived.Deep.DrawnRows
import Derived.Deep.QuietTactic
import Derived.BigQuiet
import Derived.Lib.Hide
import Derived.WalkSpells
import Derived.Test.YtclkokkppgchfaaShort
set_option linter.unusedSimpArgs false
set_option linter.unusedVariables false
set_option maxHeartbeats 800000
set_option maxRecDepth 100000
namespace Go.Proofs.Ytclkokkppgchfaa
open Go.RowKit Go.Ng Go.Proofs.YtclkokkppgchfaaW.PrintLast
theorem send_ok {tag : Nat → Tag} {k : Nat} {P : PlaceM} {w : World} (kind to prop item version : Int) (hP : PRep tag k w P) (hok : TagOk tag w) (hn : P.out.length ≤ 1000000) :
  Calls Try.prog 77 #[.pointer (some ⟨P.ptr,0,none⟩),.int .i64 kind,.int .i64 to,.int .i64 prop,.int .i64 item,.int .i64 version] w fun e w' => e = .returned (.tuple #[]) ∧
   ∃ tag',PRep tag' k w' (P.send kind to prop item version) ∧ Fr (fun t => t = (k,1,0) ∨ t = (k,5,0)) tag tag' w w' := by
 obtain ⟨i0,hi,hz0,hz1,hz2⟩ := info_parts Try.info49
 obtain ⟨sv,iv,ov,cv,hc,h2,h3,h4,h5⟩ := hP.cells
 have c0 : w.cell? ⟨P.ptr,0,none⟩ = some (.int .i64 P.no) := cell_of hc 0
 have c4 : w.cell? ⟨P.ptr,4,none⟩ = some ov := cell_of hc 4
 have HP := Lib.hid hP
 have HC := Lib.hid hc
 clear hP hc
 go_enter Try.func77,Try.ntmps77
 refine start_ (n:=20) (S:=fun w' => w'.cell? ⟨P.ptr,0,none⟩ = some (.int .i64 P.no) ∧ w'.cell? ⟨P.ptr,4,none⟩ = some ov) (ds := [19]) #[f_,f_,f_,f_,f_,f_,f_,f_,f_,f_,f_,f_,f_,f_,f_,f_,f_,f_,f_,f_] (by kernel_rfl) rfl rfl ⟨c0,c4⟩ (fun hHeld => ?_)
 refine pv_ (i:=0) (N:=some 12) (v:=?_) (a':=?_) rfl rfl (by kernel_rfl) (fun _ _ _ h => h) (Or.inl ⟨by rfl,?_⟩) ?_ ?_
 rotate_left;intro w';go_simp;with_reducible rfl;rotate_left;simp only [Act.put,sA_,sB_,sC_,i64_w,i32_w];rfl
 refine pv_ (i:=1) (N:=some 13) (v:=?_) (a':=?_) rfl rfl (by kernel_rfl) (fun _ _ _ h => h) (Or.inl ⟨by rfl,?_⟩) ?_ ?_
 rotate_left;intro w';go_simp;with_reducible rfl;rotate_left;simp only [Act.put,sA_,sB_,sC_,i64_w,i32_w];rfl
 refine pv_ (i:=2) (N:=some 14) (v:=?_) (a':=?_) rfl rfl (by kernel_rfl) (fun _ _ _ h => h) (Or.inl ⟨by rfl,?_⟩) ?_ ?_
 rotate_left;intro w';go_simp;with_reducible rfl;rotate_left;simp only [Act.put,sA_,sB_,sC_,i64_w,i32_w];rfl
 refine pv_ (i:=3) (N:=some 15) (v:=?_) (a':=?_) rfl rfl (by kernel_rfl) (fun _ _ _ h => h) (Or.inl ⟨by rfl,?_⟩) ?_ ?_
 rotate_left;intro w';go_simp;with_reducible rfl;rotate_left;simp only [Act.put,sA_,sB_,sC_,i64_w,i32_w];rfl
 refine pv_ (i:=5) (N:=some 17) (v:=?_) (a':=?_) rfl rfl (by kernel_rfl) (fun _ _ _ h => h) (Or.inl ⟨by rfl,?_⟩) ?_ ?_
 rotate_left;intro w';go_simp;with_reducible rfl;rotate_left;simp only [Act.put,sA_,sB_,sC_,i64_w,i32_w];rfl
 refine pv_ (i:=6) (N:=some 18) (v:=?_) (a':=?_) rfl rfl (by kernel_rfl) (fun _ _ _ h => h) (Or.inl ⟨by rfl,?_⟩) ?_ ?_
 rotate_left;intro w';go_simp;with_reducible rfl;rotate_left;simp only [Act.put,sA_,sB_,sC_,i64_w,i32_w];rfl
 refine pv_ (i:=7) (N:=some 19) (v:=?_) (a':=?_) rfl rfl (by kernel_rfl) (fun _ _ _ h => h) (Or.inl ⟨by rfl,?_⟩) ?_ ?_
 rotate_left;intro w';go_simp;with_reducible rfl;rotate_left;simp only [Act.put,sA_,sB_,sC_,i64_w,i32_w];rfl
 refine pv_ (i:=8) (N:=some 20) (v:=?_) (a':=?_) rfl rfl (by kernel_rfl) (fun _ _ _ h => h) (Or.inl ⟨by rfl,?_⟩) ?_ ?_
 rotate_left;intro w';go_simp;with_reducible rfl;rotate_left;simp only [Act.put,sA_,sB_,sC_,i64_w,i32_w];rfl
 refine pv_ (i:=10) (N:=some 22) (v:=?_) (a':=?_) rfl rfl (by kernel_rfl) (fun _ _ _ h => h) (Or.inl ⟨by rfl,?_⟩) ?_ ?_
 rotate_left;intro w';go_simp;with_reducible rfl;rotate_left;simp only [Act.put,sA_,sB_,sC_,i64_w,i32_w];rfl
 refine pv_ (i:=11) (N:=some 23) (v:=?_) (a':=?_) rfl rfl (by kernel_rfl) (fun _ _ _ h => h) (Or.inl ⟨by rfl,?_⟩) ?_ ?_
 rotate_left;intro w';go_simp;with_reducible rfl;rotate_left;simp only [Act.put,sA_,sB_,sC_,i64_w,i32_w];rfl
 refine pv_ (i:=12) (N:=some 24) (v:=?_) (a':=?_) rfl rfl (by kernel_rfl) (fun _ _ _ h => h) (Or.inl ⟨by rfl,?_⟩) ?_ ?_
 rotate_left;intro w';go_simp;with_reducible rfl;rotate_left;simp only [Act.put,sA_,sB_,sC_,i64_w,i32_w];rfl
 refine pv_ (i:=13) (N:=some 25) (v:=?_) (a':=?_) rfl rfl (by kernel_rfl) (fun _ _ _ h => h) (Or.inl ⟨by rfl,?_⟩) ?_ ?_
 rotate_left;intro w';go_simp;with_reducible rfl;rotate_left;simp only [Act.put,sA_,sB_,sC_,i64_w,i32_w];rfl
 refine tv_ (i:=4) (N:=some 16) (v:=?_) (a':=?_) rfl rfl (by kernel_rfl) (fun _ _ _ h => h) (Or.inl ⟨by rfl,?_⟩) hHeld ?_ ?_
 rotate_left;rintro w' ⟨s0,s1⟩;go_simp;with_reducible rfl;rotate_left;simp only [Act.put,sA_,sB_,sC_,i64_w,i32_w];rfl
 refine tv_ (i:=9) (N:=some 21) (v:=?_) (a':=?_) rfl rfl (by kernel_rfl) (fun _ _ _ h => h) (Or.inl ⟨by rfl,?_⟩) hHeld ?_ ?_
 rotate_left;rintro w' ⟨s0,s1⟩;go_simp;with_reducible rfl;rotate_left;simp only [Act.put,sA_,sB_,sC_,i64_w,i32_w];rfl
 refine pv_ (i:=14) (N:=some 26) (v:=?_) (a':=?_) rfl rfl (by kernel_rfl) (fun _ _ _ h => h) (Or.inl ⟨by rfl,?_⟩) ?_ ?_
 rotate_left;intro w';go_simp;with_reducible rfl;rotate_left;simp only [Act.put,sA_,sB_,sC_,i64_w,i32_w];rfl
 refine one_ (i:=15) (N:=some 27) #[t_,t_,t_,t_,t_,t_,t_,t_,t_,t_,t_,t_,t_,t_,t_,t_,f_,f_,f_,f_] rfl rfl (by kernel_rfl) (by decide) (fun K hK => ?_)
 refine value_ (w1:=?_) (v:=?_) (by rfl) rfl ?_ ?_
 rotate_left 2
 ·go_simp
  constructor
  ·rfl
  ·rfl
 refine hK.out _ _ ⟨(ca hHeld.1 _),(ca hHeld.2 _)⟩ (fun hHeld => ?_)
 clear hK K
 refine norm_ (a':=?_) ?_ ?_
 rotate_left
 ·show Act.put _ (some 27) _ = _
  simp only [Act.put,sA_,sB_,sC_,i64_w,i32_w]
  rfl
 refine one_ (i:=16) (N:=some 28) #[t_,t_,t_,t_,t_,t_,t_,t_,t_,t_,t_,t_,t_,t_,t_,t_,t_,f_,f_,f_] rfl rfl (by kernel_rfl) (by decide) (fun K hK => ?_)
 refine append_arm (by rfl) rfl (.tmp 16) (.tmp 27) 24 rfl (by rfl) (by rfl) (h4.alloc _).drew ((hok.alloc _).drew) Try.underlying24 hi hz0 hz1 hz2 rfl (by decide) (Post.cells ⟨kind,P.no,to,prop,item,version⟩) rfl (news_at (heap_alloc_at _ _)) (by simp [Post.cells,Value.oneCell']) (by decide) (by unfold maxLen; omega) (by omega) ?_
 intro g cap w1 tag1 hrow hfr
 have hc1 := hfr.heap (heap_alloc_lt HC.out _) (by rw [HP.out.tptr]; simp)
 have d0 : w1.cell? ⟨P.ptr,0,none⟩ = some (.int .i64 P.no) := cell_of hc1 0
 have d4 : w1.cell? ⟨P.ptr,4,none⟩ = some ov := cell_of hc1 4
 have f4 : w1.frozen? ⟨P.ptr,4,none⟩ = false := free_of hc1 4
 have HC1 := Lib.hid hc1
 clear hc1
 refine hK.out _ _ ⟨d0,d4⟩ (fun hHeld => ?_)
 clear hK K
 refine norm_ (a':=?_) ?_ ?_
 rotate_left
 ·show Act.put _ (some 28) _ = _
  simp only [Act.put,sA_,sB_,sC_,i64_w,i32_w]
  rfl
 refine pv_ (i:=17) (N:=some 29) (v:=?_) (a':=?_) rfl rfl (by kernel_rfl) (fun _ _ _ h => h) (Or.inl ⟨by rfl,?_⟩) ?_ ?_
 rotate_left;intro w';go_simp;with_reducible rfl;rotate_left;simp only [Act.put,sA_,sB_,sC_,i64_w,i32_w];rfl
 refine pv_ (i:=18) (N:=some 30) (v:=?_) (a':=?_) rfl rfl (by kernel_rfl) (fun _ _ _ h => h) (Or.inl ⟨by rfl,?_⟩) ?_ ?_
 rotate_left;intro w';go_simp;with_reducible rfl;rotate_left;simp only [Act.put,sA_,sB_,sC_,i64_w,i32_w];rfl
 refine last_ (i:=19) (N:=none) #[t_,t_,t_,t_,t_,t_,t_,t_,t_,t_,t_,t_,t_,t_,t_,t_,t_,t_,t_,t_] rfl rfl (by kernel_rfl) (by decide) (fun K hK => ?_)
 refine skip_ (w1:=?_) (by rfl) rfl ?_ ?_
 rotate_left
 ·go_simp
  rfl
 refine hK.out _ _ ?_
 clear hK K
 refine done_ (by kernel_rfl) ?_
 have hF : Fr (fun t => t = (k,1,0) ∨ t = (k,5,0)) tag tag1 w w1 := ((Fr.alloc hok _).trans (Fr.drew (hok.alloc _))).trans (hfr.mono fun t h => .inr h)
 have ht1 : tag1 P.ptr = (k,1,0) := (hF.tag_eq HC.out).trans HP.out.tptr
 have hG := hF.trans (Fr.setCell hF.dom (a := ⟨P.ptr,4,none⟩) (.inl ht1) (.slice (some ⟨g,0,none⟩) (P.out.length + 1) cap))
 go_end0
 refine ⟨rfl,tag1,?_,hG⟩
 refine HP.out.told hG (by rintro t (h | h) <;> simp [h]) _ P.came ?_
 intro sv' iv' ov' cv' hx
 obtain ⟨rfl,rfl,rfl,rfl⟩ : sv' = sv ∧ iv' = iv ∧ ov' = ov ∧ cv' = cv := by
  have := hx.symm.trans HC.out
  simpa using this
 refine ⟨.slice (some ⟨g,0,none⟩) (P.out.length + 1) cap,cv',?_,?_,?_⟩
 ·rw [Go.Ng.heap_setCell_same HC1.out]; rfl
 ·rw [posts_snoc,List.length_append]
  exact hrow.fr (Fr.setCell (S:=(· = (k,1,0))) hF.dom (a := ⟨P.ptr,4,none⟩) ht1 _) (by simp)
 ·exact h5.fr hG (by simp)
theorem waits1_ok (x : Asker) (cb : Nat) (p : Int) (w : World) (hc : w.cell? ⟨cb,0,none⟩ = some (.int .i64 p)) (hlt : cb < w.heap.size) :
  Calls Try.prog 134 #[.agg #[.int .i64 x.prop,.int .i64 x.place],.pointer (some ⟨cb,0,none⟩)] w fun e w' => e = .returned (.bool (x.prop == p)) ∧ w' = w.alloc (.cells #[.int .i64 x.prop,.int .i64 x.place] 116) := by
 go_enter Try.func134,Try.ntmps134
 go_wp2
 go_ret
 exact ⟨rfl,rfl⟩
theorem is_ok (b : Nat) (held : Bool) (hp p : Int) (w : World) (c0 : w.cell? ⟨b,0,none⟩ = some (.bool held)) (c1 : w.cell? ⟨b,1,none⟩ = some (.int .i64 hp)) :
  Calls Try.prog 124 #[.pointer (some ⟨b,0,none⟩),.int .i64 p] w fun e w' => e = .returned (.bool (held && hp == p)) ∧ w' = w := by
 cases held
 ·go_enter Try.func124,Try.ntmps124
  go_wp2
  go_ret
  exact ⟨rfl,rfl⟩
 ·go_enter Try.func124,Try.ntmps124
  go_wp2
  go_ret
  exact ⟨by simp,rfl⟩
def isProp (p : Int) (x : Asker) : Bool := x.prop == p
def idxP (p : Int) (l : List Asker) : Int := match l.findIdx? (isProp p) with | some i => (i : Int) | none => -1
theorem idxP_at {p : Int} {l : List Asker} {j : Nat} {x : Asker} (hx : l[j]? = some x) (hp : isProp p x = true) (hno : ∀ i < j,∀ x,l[i]? = some x → isProp p x = false) : idxP p l = j := by
 obtain ⟨hj,hjx⟩ := (List.getElem?_eq_some_iff.1 hx)
 have : l.findIdx? (isProp p) = some j := by
  rw [List.findIdx?_eq_some_iff_getElem]
  refine ⟨hj,by rw [hjx]; exact hp,fun i hi => ?_⟩
  have hil : i < l.length := Nat.lt_trans hi hj
  rw [hno i hi _ (List.getElem?_eq_getElem hil)]
  decide
 simp [idxP,this]
theorem idxP_none {p : Int} {l : List Asker} (hno : ∀ i < l.length,∀ x,l[i]? = some x → isProp p x = false) : idxP p l = -1 := by
 have : l.findIdx? (isProp p) = none := by
  rw [List.findIdx?_eq_none_iff]
  intro x hx
  obtain ⟨i,hi⟩ := List.getElem?_of_mem hx
  exact hno i (List.getElem?_eq_some_iff.1 hi).1 x hi
 simp [idxP,this]
theorem index_ok {tag : Nat → Tag} {t : Tag} {v : Value} (l : List Asker) (cb : Nat) (p : Int) (w : World) (hr : Row tag t 116 2 w v l.length (askers l)) (hok : TagOk tag w)
  (hc : w.cell? ⟨cb,0,none⟩ = some (.int .i64 p)) (hlt : cb < w.heap.size) :
  Calls Try.prog 138 #[v,.func (.func 134) #[] #[.pointer (some ⟨cb,0,none⟩)]] w fun e w' => e = .returned (.int .i64 (idxP p l)) ∧
   Fr (fun _ => False) tag tag w w' := by
 obtain ⟨A,cap,rfl,hn1,hn2⟩ := hr.form
 unfold maxLen at hn2
 have HR := Lib.hid hr
 clear hr
 go_enter Try.func138,Try.ntmps138
 go_wp2_with fail
 go_loopw [8] (fun i wr => ∃ j : Nat,j ≤ l.length ∧ i = .int .i64 j ∧ Hid (∀ i < j,∀ x,l[i]? = some x → isProp p x = false) ∧ Fr (fun _ => False) tag tag w wr) (fun i _ => l.length - (intOf i).toNat)
 case atStart => exact ⟨0,Nat.zero_le _,rfl,Lib.hid (fun i h => by omega),Fr.refl hok⟩
 case round =>
  obtain ⟨j,hj,rfl,hno,hF⟩ := hrel
  by_cases hjl : j < l.length
  ·obtain ⟨x,hx⟩ : ∃ x,l[j]? = some x := ⟨_,List.getElem?_eq_getElem hjl⟩
   obtain ⟨b,rfl,_,hb,hcells⟩ := HR.out.elem (enc := Asker.cells) (fun _ => rfl) (by decide) hx
   have e0 : wr.cell? ⟨b,j * 2,none⟩ = some (.int .i64 x.prop) := hF.cellF (hcells 0 _ rfl)
   have e1 : wr.cell? ⟨b,j * 2 + 1,none⟩ = some (.int .i64 x.place) := hF.cellF (hcells 1 _ rfl)
   have ec := hF.cellF hc
   have hlw : cb < wr.heap.size := Nat.lt_of_lt_of_le hlt hF.size
   clear hcells
   have HX := Lib.hid hx
   clear hx
   cases hp : isProp p x
   ·have hp' : (x.prop == p) = false := hp
    have HP := Lib.hid hp
    clear hp
    go_wp2_with (go_at_call 134; refine (waits1_ok x cb p _ ec hlw).mono ?_; rintro e w' ⟨rfl,rfl⟩)
    go_roundw
    case rel => 
     refine ⟨j + 1,by omega,by go_num,Lib.hid ?_,hF.trans (Fr.alloc hF.dom _)⟩
     intro i hi y hy
     rcases Nat.lt_succ_iff_lt_or_eq.1 hi with h | h
     ·exact hno.out i h y hy
     ·subst h
      have := HX.out.symm.trans hy
      injection this with this
      subst this
      exact HP.out
    case measure => simp [intOf]; omega
   ·have hp' : (x.prop == p) = true := hp
    have HP := Lib.hid hp
    clear hp
    go_wp2_with (go_at_call 134; refine (waits1_ok x cb p _ ec hlw).mono ?_; rintro e w' ⟨rfl,rfl⟩)
    go_ret
    refine ⟨?_,hF.trans (Fr.alloc hF.dom _)⟩
    rw [idxP_at HX.out HP.out hno.out]; rfl
  ·have : j = l.length := by omega
   subst this
   go_wp2
   go_ret
   refine ⟨?_,hF⟩
   rw [idxP_none hno.out]; rfl
theorem leave1_ok (x : Asker) (cb : Nat) (p : Int) (w : World) (hc : w.cell? ⟨cb,0,none⟩ = some (.int .i64 p)) (hlt : cb < w.heap.size) :
  Calls Try.prog 137 #[.agg #[.int .i64 x.prop,.int .i64 x.place],.pointer (some ⟨cb,0,none⟩)] w fun e w' => e = .returned (.bool (x.prop == p)) ∧ w' = w.alloc (.cells #[.int .i64 x.prop,.int .i64 x.place] 116) := by
 go_enter Try.func137,Try.ntmps137
 go_wp2
 go_ret
 exact ⟨rfl,rfl⟩
theorem indexL_ok {tag : Nat → Tag} {t : Tag} {v : Value} (l : List Asker) (cb : Nat) (p : Int) (w : World) (hr : Row tag t 116 2 w v l.length (askers l)) (hok : TagOk tag w)
  (hc : w.cell? ⟨cb,0,none⟩ = some (.int .i64 p)) (hlt : cb < w.heap.size) :
  Calls Try.prog 138 #[v,.func (.func 137) #[] #[.pointer (some ⟨cb,0,none⟩)]] w fun e w' => e = .returned (.int .i64 (idxP p l)) ∧
   Fr (fun _ => False) tag tag w w' := by
 obtain ⟨A,cap,rfl,hn1,hn2⟩ := hr.form
 unfold maxLen at hn2
 have HR := Lib.hid hr
 clear hr
 go_enter Try.func138,Try.ntmps138
 go_wp2_with fail
 go_loopw [8] (fun i wr => ∃ j : Nat,j ≤ l.length ∧ i = .int .i64 j ∧ Hid (∀ i < j,∀ x,l[i]? = some x → isProp p x = false) ∧ Fr (fun _ => False) tag tag w wr) (fun i _ => l.length - (intOf i).toNat)
 case atStart => exact ⟨0,Nat.zero_le _,rfl,Lib.hid (fun i h => by omega),Fr.refl hok⟩
 case round =>
  obtain ⟨j,hj,rfl,hno,hF⟩ := hrel
  by_cases hjl : j < l.length
  ·obtain ⟨x,hx⟩ : ∃ x,l[j]? = some x := ⟨_,List.getElem?_eq_getElem hjl⟩
   obtain ⟨b,rfl,_,hb,hcells⟩ := HR.out.elem (enc := Asker.cells) (fun _ => rfl) (by decide) hx
   have e0 : wr.cell? ⟨b,j * 2,none⟩ = some (.int .i64 x.prop) := hF.cellF (hcells 0 _ rfl)
   have e1 : wr.cell? ⟨b,j * 2 + 1,none⟩ = some (.int .i64 x.place) := hF.cellF (hcells 1 _ rfl)
   have ec := hF.cellF hc
   have hlw : cb < wr.heap.size := Nat.lt_of_lt_of_le hlt hF.size
   clear hcells
   have HX := Lib.hid hx
   clear hx
   cases hp : isProp p x
   ·have hp' : (x.prop == p) = false := hp
    have HP := Lib.hid hp
    clear hp
    go_wp2_with (go_at_call 137; refine (leave1_ok x cb p _ ec hlw).mono ?_; rintro e w' ⟨rfl,rfl⟩)
    go_roundw
    case rel => 
     refine ⟨j + 1,by omega,by go_num,Lib.hid ?_,hF.trans (Fr.alloc hF.dom _)⟩
     intro i hi y hy
     rcases Nat.lt_succ_iff_lt_or_eq.1 hi with h | h
     ·exact hno.out i h y hy
     ·subst h
      have := HX.out.symm.trans hy
      injection this with this
      subst this
      exact HP.out
    case measure => simp [intOf]; omega
   ·have hp' : (x.prop == p) = true := hp
    have HP := Lib.hid hp
    clear hp
    go_wp2_with (go_at_call 137; refine (leave1_ok x cb p _ ec hlw).mono ?_; rintro e w' ⟨rfl,rfl⟩)
    go_ret
    refine ⟨?_,hF.trans (Fr.alloc hF.dom _)⟩
    rw [idxP_at HX.out HP.out hno.out]; rfl
  ·have : j = l.length := by omega
   subst this
   go_wp2
   go_ret
   refine ⟨?_,hF⟩
   rw [idxP_none hno.out]; rfl
theorem idxP_ge (p : Int) (l : List Asker) : decide (0 ≤ idxP p l) = l.any (isProp p) := by
 unfold idxP
 cases h : l.findIdx? (isProp p) with
 | none =>
  rw [List.findIdx?_eq_none_iff] at h
  have : l.any (isProp p) = false := by rw [List.any_eq_false]; intro x hx; simp [h x hx]
  rw [this]; decide
 | some i =>
  rw [List.findIdx?_eq_some_iff_getElem] at h
  obtain ⟨hi,h1,_⟩ := h
  have : l.any (isProp p) = true := by rw [List.any_eq_true]; exact ⟨_,List.getElem_mem hi,h1⟩
  rw [this]; simp
theorem contains_ok {tag : Nat → Tag} {t : Tag} {v : Value} (l : List Asker) (cb : Nat) (p : Int) (w : World) (hr : Row tag t 116 2 w v l.length (askers l)) (hok : TagOk tag w)
  (hc : w.cell? ⟨cb,0,none⟩ = some (.int .i64 p)) (hlt : cb < w.heap.size) :
  Calls Try.prog 133 #[v,.func (.func 134) #[] #[.pointer (some ⟨cb,0,none⟩)]] w fun e w' => e = .returned (.bool (l.any (isProp p))) ∧ Fr (fun _ => False) tag tag w w' := by
 go_enter Try.func133,Try.ntmps133
 go_wp2_with (go_at_call 138; refine (index_ok l cb p _ hr hok hc hlt).mono ?_; rintro e w' ⟨rfl,hF⟩)
 go_ret
 exact ⟨by rw [← idxP_ge]; rfl,hF⟩
theorem waits_ok {tag : Nat → Tag} {t : Tag} {v : Value} (l : List Asker) (b : Nat) (p : Int) (w : World) (c3 : w.cell? ⟨b,3,none⟩ = some v) (hr : Row tag t 116 2 w v l.length (askers l)) (hok : TagOk tag w) :
  Calls Try.prog 125 #[.pointer (some ⟨b,0,none⟩),.int .i64 p] w fun e w' => e = .returned (.bool (l.any (isProp p))) ∧ Fr (fun _ => False) tag tag w w' := by
 have hb := World.block_lt_of_cell? w _ c3
 go_enter Try.func125,Try.ntmps125
 go_wp2_with (go_at_call 133; refine (contains_ok l w.heap.size p _ (hr.alloc _) (hok.alloc _) (by simp) (by simp)).mono ?_; rintro e w' ⟨rfl,hF⟩)
 go_ret
 exact ⟨rfl,(Fr.alloc hok _).trans hF⟩
theorem clone136_ok {tag : Nat → Tag} (t : Tag) {v : Value} (n : Nat) (ks : List Value) (w : World) (hr : Rd 2 w v n ks) (hok : TagOk tag w) (hb : n ≤ 1000000000) :
  Calls Try.prog 136 #[v] w fun e w' => ∃ v',e = .returned v' ∧ ∃ tag',Row tag' t 116 2 w' v' n ks ∧ Fr (fun _ => False) tag tag' w w' := by
 obtain ⟨i0,hi,hz0,hz1,hz2⟩ := info_parts Try.info116
 rcases hr.form with ⟨rfl,rfl⟩ | ⟨b,off,cap,rfl,h2,h3,h4⟩
 ·obtain rfl : ks = [] := List.eq_nil_of_length_eq_zero (by have := hr.len; omega)
  have he := fun W => Lib.run_eql_slice_nil (P := Try.prog) W 117 116 none 0 0 0 0 Try.underlying117
  clear hr
  go_enter Try.func136,Try.ntmps136
  go_wp2
  go_ret
  exact ⟨_,rfl,tag,Row.nil _ _ _ _ _,Fr.refl hok⟩
 ·have he := fun W => Lib.run_eql_slice_nil (P := Try.prog) W 117 116 (some ⟨b,off,none⟩) n cap 0 0 Try.underlying117
  rcases Nat.eq_zero_or_pos n with rfl | hn
  ·obtain rfl : ks = [] := List.eq_nil_of_length_eq_zero (by have := hr.len; omega)
   clear hr
   go_enter Try.func136,Try.ntmps136
   go_wp2_with (at_builtin; refine append0_list rfl (.tmp 5) (.tmp 6) 117 rfl (by rfl) (by rfl) Try.underlying117 hi (Nat.le_refl _) ?_)
   go_ret
   exact ⟨_,rfl,tag,Row.bare _ _ _ _ _ _,Fr.alloc hok _⟩
  ·have hlen := hr.len
   have hone := hr.one
   clear hr
   have H4 : ∀ j u,ks[j]? = some u → (w.alloc (.cells #[] 116)).cell? ((⟨b,off,none⟩ : Addr).add j) = some u := fun j u hu => by rw [add_lit]; exact ca (h4 j u hu) _
   have HL := Lib.hid hlen
   have HH := Lib.hid H4
   clear hlen h4 H4
   go_enter Try.func136,Try.ntmps136
   go_wp2_with (at_builtin; refine append_bare_list t rfl (.tmp 5) (.tmp 6) 117 rfl (by rfl) (by rfl) (hok.alloc _) Try.underlying117 hi hz0 hz1 hz2 rfl (by decide) ks HL.out HH.out hone hn (by unfold maxLen; omega) (by omega) ?_; intro g cap' w1 tag1 hrow hfr hge)
   go_ret
   exact ⟨_,rfl,tag1,hrow,(Fr.alloc hok (.cells #[] 116)).trans hfr⟩
theorem clone47_ok {tag : Nat → Tag} (t : Tag) {v : Value} (n : Nat) (ks : List Value) (w : World) (hr : Rd 6 w v n ks) (hok : TagOk tag w) (hb : n ≤ 1000000000) :
  Calls Try.prog 47 #[v] w fun e w' => ∃ v',e = .returned v' ∧ ∃ tag',Row tag' t 49 6 w' v' n ks ∧ Fr (fun _ => False) tag tag' w w' := by
 obtain ⟨i0,hi,hz0,hz1,hz2⟩ := info_parts Try.info49
 rcases hr.form with ⟨rfl,rfl⟩ | ⟨b,off,cap,rfl,h2,h3,h4⟩
 ·obtain rfl : ks = [] := List.eq_nil_of_length_eq_zero (by have := hr.len; omega)
  have he := fun W => Lib.run_eql_slice_nil (P := Try.prog) W 24 49 none 0 0 0 0 Try.underlying24
  clear hr
  go_enter Try.func47,Try.ntmps47
  go_wp2
  go_ret
  exact ⟨_,rfl,tag,Row.nil _ _ _ _ _,Fr.refl hok⟩
 ·have he := fun W => Lib.run_eql_slice_nil (P := Try.prog) W 24 49 (some ⟨b,off,none⟩) n cap 0 0 Try.underlying24
  rcases Nat.eq_zero_or_pos n with rfl | hn
  ·obtain rfl : ks = [] := List.eq_nil_of_length_eq_zero (by have := hr.len; omega)
   clear hr
   go_enter Try.func47,Try.ntmps47
   go_wp2_with (at_builtin; refine append0_list rfl (.tmp 5) (.tmp 6) 24 rfl (by rfl) (by rfl) Try.underlying24 hi (Nat.le_refl _) ?_)
   go_ret
   exact ⟨_,rfl,tag,Row.bare _ _ _ _ _ _,Fr.alloc hok _⟩
  ·have hlen := hr.len
   have hone := hr.one
   clear hr
   have H4 : ∀ j u,ks[j]? = some u → (w.alloc (.cells #[] 49)).cell? ((⟨b,off,none⟩ : Addr).add j) = some u := fun j u hu => by rw [add_lit]; exact ca (h4 j u hu) _
   have HL := Lib.hid hlen
   have HH := Lib.hid H4
   clear hlen h4 H4
   go_enter Try.func47,Try.ntmps47
   go_wp2_with (at_builtin; refine append_bare_list t rfl (.tmp 5) (.tmp 6) 24 rfl (by rfl) (by rfl) (hok.alloc _) Try.underlying24 hi hz0 hz1 hz2 rfl (by decide) ks HL.out HH.out hone hn (by unfold maxLen; omega) (by omega) ?_; intro g cap' w1 tag1 hrow hfr hge)
   go_ret
   exact ⟨_,rfl,tag1,hrow,(Fr.alloc hok (.cells #[] 49)).trans hfr⟩
theorem clone70_ok {tag : Nat → Tag} (t : Tag) {v : Value} (n : Nat) (ks : List Value) (w : World) (hr : Rd 2 w v n ks) (hok : TagOk tag w) (hb : n ≤ 1000000000) :
  Calls Try.prog 70 #[v] w fun e w' => ∃ v',e = .returned v' ∧ ∃ tag',Row tag' t 69 2 w' v' n ks ∧ Fr (fun _ => False) tag tag' w w' := by
 obtain ⟨i0,hi,hz0,hz1,hz2⟩ := info_parts Try.info69
 rcases hr.form with ⟨rfl,rfl⟩ | ⟨b,off,cap,rfl,h2,h3,h4⟩
 ·obtain rfl : ks = [] := List.eq_nil_of_length_eq_zero (by have := hr.len; omega)
  have he := fun W => Lib.run_eql_slice_nil (P := Try.prog) W 34 69 none 0 0 0 0 Try.underlying34
  clear hr
  go_enter Try.func70,Try.ntmps70
  go_wp2
  go_ret
  exact ⟨_,rfl,tag,Row.nil _ _ _ _ _,Fr.refl hok⟩
 ·have he := fun W => Lib.run_eql_slice_nil (P := Try.prog) W 34 69 (some ⟨b,off,none⟩) n cap 0 0 Try.underlying34
  rcases Nat.eq_zero_or_pos n with rfl | hn
  ·obtain rfl : ks = [] := List.eq_nil_of_length_eq_zero (by have := hr.len; omega)
   clear hr
   go_enter Try.func70,Try.ntmps70
   go_wp2_with (at_builtin; refine append0_list rfl (.tmp 5) (.tmp 6) 34 rfl (by rfl) (by rfl) Try.underlying34 hi (Nat.le_refl _) ?_)
   go_ret
   exact ⟨_,rfl,tag,Row.bare _ _ _ _ _ _,Fr.alloc hok _⟩
  ·have hlen := hr.len
   have hone := hr.one
   clear hr
   have H4 : ∀ j u,ks[j]? = some u → (w.alloc (.cells #[] 69)).cell? ((⟨b,off,none⟩ : Addr).add j) = some u := fun j u hu => by rw [add_lit]; exact ca (h4 j u hu) _
   have HL := Lib.hid hlen
   have HH := Lib.hid H4
   clear hlen h4 H4
   go_enter Try.func70,Try.ntmps70
   go_wp2_with (at_builtin; refine append_bare_list t rfl (.tmp 5) (.tmp 6) 34 rfl (by rfl) (by rfl) (hok.alloc _) Try.underlying34 hi hz0 hz1 hz2 rfl (by decide) ks HL.out HH.out hone hn (by unfold maxLen; omega) (by omega) ?_; intro g cap' w1 tag1 hrow hfr hge)
   go_ret
   exact ⟨_,rfl,tag1,hrow,(Fr.alloc hok (.cells #[] 69)).trans hfr⟩
theorem clone67_ok {tag : Nat → Tag} (t : Tag) {v : Value} (n : Nat) (ks : List Value) (w : World) (hr : Rd 1 w v n ks) (hok : TagOk tag w) (hb : n ≤ 1000000000) :
  Calls Try.prog 67 #[v] w fun e w' => ∃ v',e = .returned v' ∧ ∃ tag',Row tag' t 3 1 w' v' n ks ∧ Fr (fun _ => False) tag tag' w w' := by
 obtain ⟨i0,hi,hz0,hz1,hz2⟩ := info_parts Try.info3
 rcases hr.form with ⟨rfl,rfl⟩ | ⟨b,off,cap,rfl,h2,h3,h4⟩
 ·obtain rfl : ks = [] := List.eq_nil_of_length_eq_zero (by have := hr.len; omega)
  have he := fun W => Lib.run_eql_slice_nil (P := Try.prog) W 22 3 none 0 0 0 0 Try.underlying22
  clear hr
  go_enter Try.func67,Try.ntmps67
  go_wp2
  go_ret
  exact ⟨_,rfl,tag,Row.nil _ _ _ _ _,Fr.refl hok⟩
 ·have he := fun W => Lib.run_eql_slice_nil (P := Try.prog) W 22 3 (some ⟨b,off,none⟩) n cap 0 0 Try.underlying22
  rcases Nat.eq_zero_or_pos n with rfl | hn
  ·obtain rfl : ks = [] := List.eq_nil_of_length_eq_zero (by have := hr.len; omega)
   clear hr
   go_enter Try.func67,Try.ntmps67
   go_wp2_with (at_builtin; refine append0_list rfl (.tmp 5) (.tmp 6) 22 rfl (by rfl) (by rfl) Try.underlying22 hi (Nat.le_refl _) ?_)
   go_ret
   exact ⟨_,rfl,tag,Row.bare _ _ _ _ _ _,Fr.alloc hok _⟩
  ·have hlen := hr.len
   have hone := hr.one
   clear hr
   have H4 : ∀ j u,ks[j]? = some u → (w.alloc (.cells #[] 3)).cell? ((⟨b,off,none⟩ : Addr).add j) = some u := fun j u hu => by rw [add_lit]; exact ca (h4 j u hu) _
   have HL := Lib.hid hlen
   have HH := Lib.hid H4
   clear hlen h4 H4
   go_enter Try.func67,Try.ntmps67
   go_wp2_with (at_builtin; refine append_bare_list t rfl (.tmp 5) (.tmp 6) 22 rfl (by rfl) (by rfl) (hok.alloc _) Try.underlying22 hi hz0 hz1 hz2 rfl (by decide) ks HL.out HH.out hone hn (by unfold maxLen; omega) (by omega) ?_; intro g cap' w1 tag1 hrow hfr hge)
   go_ret
   exact ⟨_,rfl,tag1,hrow,(Fr.alloc hok (.cells #[] 3)).trans hfr⟩
def others (p : Int) (l : List Asker) : List Asker := l.filter fun x => !isProp p x
theorem askers_cons (x : Asker) (l : List Asker) : askers (x :: l) = .int .i64 x.prop :: .int .i64 x.place :: askers l := rfl
theorem askers_len (l : List Asker) : (askers l).length = l.length * 2 := flat_len _ 2 (fun _ => rfl) l
theorem askers_set : ∀ (l : List Asker) (i : Nat) (x : Asker),((askers l).set (i * 2) (.int .i64 x.prop)).set (i * 2 + 1) (.int .i64 x.place) = askers (l.set i x)
 | [],i,x => by simp [askers]
 | y :: l,0,x => rfl
 | y :: l,i + 1,x => by
  rw [sC_,askers_cons,askers_cons,← askers_set l i x,Nat.add_mul]
  rfl
theorem askers_take (l : List Asker) (i : Nat) : (askers l).take (i * 2) = askers (l.take i) := by
 induction l generalizing i with
 | nil => simp [askers]
 | cons y l ih =>
  cases i with
  | zero => rfl
  | succ i => rw [List.take_succ_cons,askers_cons,askers_cons,← ih,Nat.add_mul]; rfl
theorem others_start {p : Int} {l : List Asker} {i0 : Nat} {hi : i0 < l.length} (hno : ∀ (j : Nat) (hji : j < i0),¬isProp p (l[j]'(Nat.lt_trans hji hi)) = true) (hp : isProp p l[i0] = true) : l.take i0 = others p (l.take (i0 + 1)) := by
 have h1 : others p (l.take i0) = l.take i0 := by
  refine List.filter_eq_self.2 fun x hx => ?_
  obtain ⟨k,hk,rfl⟩ := List.getElem_of_mem hx
  rw [List.length_take] at hk
  rw [List.getElem_take]
  simpa using hno k (by omega)
 rw [List.take_succ_eq_append_getElem hi,others,List.filter_append]
 simp [hp]
 exact h1.symm
theorem others_next {p : Int} {l : List Asker} {j : Nat} {x : Asker} (hx : l[j]? = some x) : others p (l.take (j + 1)) = others p (l.take j) ++ (if isProp p x then [] else [x]) := by
 obtain ⟨hj,rfl⟩ := List.getElem?_eq_some_iff.1 hx
 rw [List.take_succ_eq_append_getElem hj,others,List.filter_append]
 cases h : isProp p l[j] <;> simp [others,h]
def Open (tag : Nat → Tag) (t : Tag) (b cap : Nat) (w : World) (L : List Asker) : Prop :=
 tag b = t ∧ L.length ≤ cap ∧ cap ≤ maxLen ∧ ∃ cur,w.heap[b]? = some (.cells cur 116 (0,0)) ∧ cur.size = cap * 2 ∧ cur.toList.take (L.length * 2) = askers L
theorem Open.row {tag : Nat → Tag} {t : Tag} {b cap : Nat} {w : World} {L : List Asker} (h : Open tag t b cap w L) {i : Nat} (hi : i ≤ L.length) : Row tag t 116 2 w (.slice (some ⟨b,0,none⟩) i cap) i (askers (L.take i)) := by
 obtain ⟨h1,h2,h3,cur,h4,h5,h6⟩ := h
 refine .inl ⟨⟨by rw [askers_len,List.length_take]; congr 1; omega,.inr ⟨b,cap,cur,rfl,Nat.zero_le _,h4,by omega,h3,h5,?_⟩⟩,fun x hx => ?_⟩
 ·rw [← askers_take,← h6,List.take_take]; congr 1; omega
 ·simp [Value.ownBlock] at hx; subst hx; exact h1
theorem Row.opened {tag : Nat → Tag} {t : Tag} {w : World} {v : Value} {L : List Asker} (h : Row tag t 116 2 w v L.length (askers L)) (hL : L ≠ []) : ∃ b cap,v = .slice (some ⟨b,0,none⟩) L.length cap ∧ Open tag t b cap w L := by
 have hl : 0 < L.length := List.length_pos_iff.2 hL
 obtain ⟨b,cap,cur,rfl,h1,h2,h3,h4,h5⟩ := h.block (by rw [askers_len]; omega)
 obtain ⟨A,cap',he,_,hm⟩ := h.form
 injection he with _ _ he
 subst he
 exact ⟨b,cap,rfl,h1,h3,hm,cur,h2,h4,h5⟩
theorem Open.cells {tag : Nat → Tag} {t : Tag} {b cap : Nat} {w : World} {L : List Asker} (h : Open tag t b cap w L) {j : Nat} {x : Asker} (hx : L[j]? = some x) :
  w.cell? ⟨b,j * 2,none⟩ = some (.int .i64 x.prop) ∧ w.cell? ⟨b,j * 2 + 1,none⟩ = some (.int .i64 x.place) := by
 have hr := h.row (Nat.le_refl _)
 rw [List.take_length] at hr
 obtain ⟨b',hb,_,_,hc⟩ := Row.elem (enc := Asker.cells) hr (fun _ => rfl) (by decide) hx
 injection hb with hb; injection hb with hb; subst hb
 exact ⟨hc 0 _ rfl,hc 1 _ rfl⟩
theorem Open.free {tag : Nat → Tag} {t : Tag} {b cap : Nat} {w : World} {L : List Asker} (h : Open tag t b cap w L) (j : Nat) : w.frozen? ⟨b,j,none⟩ = false := by
 obtain ⟨h1,h2,h3,cur,h4,h5,h6⟩ := h
 exact free_of h4 j
theorem Open.lt {tag : Nat → Tag} {t : Tag} {b cap : Nat} {w : World} {L : List Asker} (h : Open tag t b cap w L) : b < w.heap.size := by
 obtain ⟨h1,h2,h3,cur,h4,h5,h6⟩ := h
 exact lt_of_heap h4
theorem Open.frF {tag : Nat → Tag} {t : Tag} {b cap : Nat} {w w' : World} {L : List Asker} (h : Open tag t b cap w L) (hF : Fr (fun _ => False) tag tag w w') : Open tag t b cap w' L := by
 obtain ⟨h1,h2,h3,cur,h4,h5,h6⟩ := h
 exact ⟨h1,h2,h3,cur,hF.heap h4 (fun x => x),h5,h6⟩
theorem Open.set {tag : Nat → Tag} {t : Tag} {b cap : Nat} {w : World} {L : List Asker} (h : Open tag t b cap w L) (i : Nat) (x : Asker) :
  Open tag t b cap ((w.setCell ⟨b,i * 2,none⟩ (.int .i64 x.prop)).setCell ⟨b,i * 2 + 1,none⟩ (.int .i64 x.place)) (L.set i x) := by
 obtain ⟨h1,h2,h3,cur,h4,h5,h6⟩ := h
 refine ⟨h1,by simpa using h2,h3,_,Go.Ng.heap_setCell_same (Go.Ng.heap_setCell_same h4 _ _) _ _,by simpa using h5,?_⟩
 rw [Array.toList_setIfInBounds,Array.toList_setIfInBounds,List.length_set,List.take_set,List.take_set,h6,askers_set]
theorem delete_ok {tag : Nat → Tag} {t : Tag} {v : Value} (l : List Asker) (cb : Nat) (p : Int) (w : World) (hr : Row tag t 116 2 w v l.length (askers l)) (hok : TagOk tag w)
  (hc : w.cell? ⟨cb,0,none⟩ = some (.int .i64 p)) (hct : tag cb ≠ t) (hn : l.length ≤ 1000000) :
  Calls Try.prog 135 #[v,.func (.func 137) #[] #[.pointer (some ⟨cb,0,none⟩)]] w fun e w' => ∃ v',e = .returned v' ∧ Row tag t 116 2 w' v' (others p l).length (askers (others p l)) ∧ Fr (· = t) tag tag w w' := by
 have hlt := World.block_lt_of_cell? w _ hc
 cases hf : l.findIdx? (isProp p) with
 | none =>
  have hi : idxP p l = -1 := by simp [idxP,hf]
  have ho : others p l = l := by
   rw [List.findIdx?_eq_none_iff] at hf
   exact List.filter_eq_self.2 (fun x hx => by simp [hf x hx])
  rw [ho]
  obtain ⟨A,cap,rfl,_,_⟩ := hr.form
  have HR := Lib.hid hr
  have HI := Lib.hid hi
  clear hr hi hf ho
  go_enter Try.func135,Try.ntmps135
  go_wp2_with (go_at_call 138; refine (indexL_ok l cb p _ HR.out hok hc hlt).mono ?_; rw [HI.out]; rintro e w' ⟨rfl,hF⟩)
  go_ret
  exact ⟨_,rfl,HR.out.fr hF (fun x => x),hF.mono (fun _ h => h.elim)⟩
 | some i0 =>
  have hi : idxP p l = i0 := by simp [idxP,hf]
  rw [List.findIdx?_eq_some_iff_getElem] at hf
  obtain ⟨hil,hp0,hno⟩ := hf
  obtain ⟨b,cap,rfl,hO⟩ := Row.opened hr (by intro h; rw [h] at hil; simp at hil)
  have hcap : l.length ≤ cap := hO.2.1
  have hcapm : cap ≤ maxLen := hO.2.2.1
  unfold maxLen at hcapm
  have HR := Lib.hid hr
  have HI := Lib.hid hi
  have HO := Lib.hid hO
  have HN := Lib.hid hno
  have HP0 := Lib.hid hp0
  have hb1 : ((i0 : Int) == -1) = false := by rw [beq_eq_false_iff_ne]; omega
  clear hr hi hO hno hp0
  go_enter Try.func135,Try.ntmps135
  go_wp2_with (go_at_call 138; refine (indexL_ok l cb p _ HR.out hok hc hlt).mono ?_; rw [HI.out]; rintro e w1 ⟨rfl,hF1⟩)
  have hst : Hid (l.take i0 = others p (l.take (i0 + 1))) := Lib.hid (others_start HN.out HP0.out)
  go_loopw [5,6] (fun v5 v6 wr => ∃ (i j : Nat) (L : List Asker),v5 = .int .i64 i ∧ v6 = .int .i64 j ∧ i < j ∧ j ≤ l.length ∧ Hid (L.length = l.length ∧ L.take i = others p (l.take j) ∧ L.drop j = l.drop j) ∧ Hid (Open tag t b cap wr L) ∧ Fr (· = t) tag tag w wr) (fun _ v6 _ => l.length - (intOf v6).toNat)
  case atStart => exact ⟨i0,i0 + 1,l,rfl,by go_num,by omega,by omega,Lib.hid ⟨rfl,hst.out,rfl⟩,Lib.hid (HO.out.frF hF1),hF1.mono (fun _ h => h.elim)⟩
  case round =>
   obtain ⟨i,j,L,rfl,rfl,hij,hjn,HL,HW,hF⟩ := hrel
   by_cases hjl : j < l.length
   ·obtain ⟨x,hx⟩ : ∃ x,L[j]? = some x := ⟨_,List.getElem?_eq_getElem (by rw [HL.out.1]; exact hjl)⟩
    obtain ⟨y,hy⟩ : ∃ y,L[i]? = some y := ⟨_,List.getElem?_eq_getElem (by rw [HL.out.1]; omega)⟩
    obtain ⟨e0,e1⟩ := HW.out.cells hx
    obtain ⟨g0,g1⟩ := HW.out.cells hy
    have q0 := HW.out.free (i * 2)
    have q1 := HW.out.free (i * 2 + 1)
    have hbw := HW.out.lt
    have ec : wr.cell? ⟨cb,0,none⟩ = some (.int .i64 p) := hF.cell hc hct
    have hlw : cb < wr.heap.size := Nat.lt_of_lt_of_le hlt hF.size
    have HX := Lib.hid hx
    clear hx hy
    cases hp : isProp p x
    ·have hp' : (x.prop == p) = false := hp
     have HP := Lib.hid hp
     clear hp
     go_wp2_with (go_at_call 137; refine (leave1_ok x cb p _ (by go_simp) (by simp; omega)).mono ?_; rintro e w' ⟨rfl,rfl⟩)
     go_roundw
     case rel =>
      have hO2 := ((HW.out).set i x)
      have hok1 : TagOk tag ((wr.setCell ⟨b,i * 2,none⟩ (.int .i64 x.prop)).setCell ⟨b,i * 2 + 1,none⟩ (.int .i64 x.place)) := (hF.dom.setCell _ _).setCell _ _
      have hbt : tag b = t := HW.out.1
      refine ⟨i + 1,j + 1,L.set i x,by go_num,by go_num,by omega,by omega,Lib.hid ⟨by rw [List.length_set]; exact HL.out.1,?_,?_⟩,Lib.hid (hO2.frF ((Fr.alloc hok1 _).trans (Fr.alloc (hok1.alloc _) _))),?_⟩
      ·obtain ⟨k1,k2,k3⟩ := HL.out
       have hlx : l[j]? = some x := by
        have h9 : (L.drop j)[0]? = (l.drop j)[0]? := by rw [k3]
        rw [List.getElem?_drop,List.getElem?_drop,Nat.add_zero] at h9
        exact h9.symm.trans HX.out
       rw [others_next hlx,HP.out,← k2]
       have hil : i < (L.set i x).length := by rw [List.length_set,k1]; omega
       rw [List.take_succ_eq_append_getElem hil,List.getElem_set_self,List.take_set,List.set_eq_of_length_le (by rw [List.length_take]; omega)]
       rfl
      ·obtain ⟨k1,k2,k3⟩ := HL.out
       rw [List.drop_set_of_lt (by omega),← List.drop_drop,← List.drop_drop,k3]
      ·exact hF.trans (((Fr.setCell hF.dom (a := ⟨b,i * 2,none⟩) hbt _).trans (Fr.setCell (hF.dom.setCell _ _) (a := ⟨b,i * 2 + 1,none⟩) hbt _)).trans ((Fr.alloc hok1 _).trans (Fr.alloc (hok1.alloc _) _)))
     case measure => simp [intOf]; omega
    ·have hp' : (x.prop == p) = true := hp
     have HP := Lib.hid hp
     clear hp
     go_wp2_with (go_at_call 137; refine (leave1_ok x cb p _ (by go_simp) (by simp; omega)).mono ?_; rintro e w' ⟨rfl,rfl⟩)
     go_roundw
     case rel =>
      refine ⟨i,j + 1,L,rfl,by go_num,by omega,by omega,Lib.hid ⟨HL.out.1,?_,?_⟩,Lib.hid ((HW.out).frF ((Fr.alloc hF.dom _).trans (Fr.alloc (hF.dom.alloc _) _))),hF.trans ((Fr.alloc hF.dom _).trans (Fr.alloc (hF.dom.alloc _) _))⟩
      ·obtain ⟨k1,k2,k3⟩ := HL.out
       have hlx : l[j]? = some x := by
        have h9 : (L.drop j)[0]? = (l.drop j)[0]? := by rw [k3]
        rw [List.getElem?_drop,List.getElem?_drop,Nat.add_zero] at h9
        exact h9.symm.trans HX.out
       rw [others_next hlx,HP.out,← k2]
       simp
      ·obtain ⟨k1,k2,k3⟩ := HL.out
       rw [← List.drop_drop,← List.drop_drop,k3]
     case measure => simp [intOf]; omega
   ·have : j = l.length := by omega
    subst this
    have hic : ¬ (cap = i) := by omega
    obtain ⟨o1,o2,o3,cur,o4,o5,o6⟩ := HW.out
    obtain ⟨i1,hi1,hz0,hz1,hz2⟩ := info_parts Try.info116
    have O4 := Lib.hid o4
    have O5 := Lib.hid o5
    have O6 := Lib.hid o6
    clear o1 o2 o3 o4 o5 o6
    go_wp2_with (refine clear_list rfl (.tmp 38) 117 rfl (by rfl) Try.underlying117 hi1 hz0 (by decide) (by decide) O4.out (show i * 2 + (l.length - i) * 2 ≤ cur.size by rw [O5.out]; omega) (by omega) ?_; intro cur2 hs2 ht2)
    go_ret
    obtain ⟨k1,k2,k3⟩ := HL.out
    rw [List.take_length] at k2
    have hlen : (others p l).length = i := by rw [← k2,List.length_take]; omega
    refine ⟨_,rfl,?_,hF.trans (Fr.setRow hF.dom (show tag b = t from HW.out.1) _)⟩
    have hO3 : Open tag t b cap (wr.setRow b cur2) (others p l) := by
     refine ⟨HW.out.1,by omega,HW.out.2.2.1,cur2,setRow_heap wr b cur cur2 116 (0,0) O4.out,by rw [hs2,O5.out],?_⟩
     rw [hlen,ht2,← k2,← askers_take,← O6.out,List.take_take]
     congr 1
     omega
    have := hO3.row (Nat.le_refl _)
    rw [List.take_length,hlen] at this
    rw [hlen]
    exact this
theorem askers_one (l : List Asker) : ∀ u ∈ askers l,u.oneCell' = true := by
 intro u hu
 simp only [askers,List.mem_flatMap] at hu
 obtain ⟨x,_,hx⟩ := hu
 simp [Asker.cells] at hx
 rcases hx with rfl | rfl <;> rfl
theorem leave_ok {tag : Nat → Tag} {k j : Nat} {it : ItemM} {w : World} (p : Int) (h : ItemRep tag k w j it) (hok : TagOk tag w) (hk : k ≠ 0) (hn : it.queue.length ≤ 1000000) :
  Calls Try.prog 132 #[.pointer (some ⟨it.ptr,0,none⟩),.int .i64 p] w fun e w' => e = .returned (.tuple #[]) ∧
   ∃ tag',ItemRep tag' k w' j { it with queue := others p it.queue } ∧ Fr (fun t => t = (k,7,(j : Int)) ∨ t = (k,8,(j : Int))) tag tag' w w' := by
 obtain ⟨qv,hc,hq⟩ := h.cells
 have c3 : w.cell? ⟨it.ptr,3,none⟩ = some qv := cell_of hc 3
 have hpl := lt_of_heap hc
 have H := Lib.hid h
 have HC := Lib.hid hc
 clear h hc
 go_enter Try.func132,Try.ntmps132
 go_wp2_with (go_at_call 136; refine (clone136_ok (k,8,(j : Int)) it.queue.length (askers it.queue) _ ((hq.rd (askers_one _)).alloc _) (hok.alloc _) (by omega)).mono ?_; rintro e w1 ⟨v1,rfl,tag1,hr1,hF1⟩)
 have hcb : w1.cell? ⟨w.heap.size,0,none⟩ = some (.int .i64 p) := hF1.cellF (by simp)
 have hct : tag1 w.heap.size ≠ (k,8,(j : Int)) := by
  rw [hF1.same _ (by simp)]
  intro e
  have := hok.new
  rw [e] at this
  exact hk this
 obtain ⟨A1,cap1,rfl,_⟩ := hr1.form
 have hc1 := hF1.heap (heap_alloc_lt HC.out _) (fun x => x)
 have ht1 : tag1 it.ptr = (k,7,(j : Int)) := (hF1.tag_eq (heap_alloc_lt HC.out _)).trans H.out.tptr
 have HC1 := Lib.hid hc1
 clear hc1
 go_wp2_with (go_at_call 135; refine (delete_ok it.queue w.heap.size p _ hr1 hF1.dom hcb hct hn).mono ?_; rintro e w2 ⟨v2,rfl,hr2,hF2⟩; obtain ⟨A2,cap2,rfl,_⟩ := hr2.form; have hc2 := Lib.hid (hF2.heap HC1.out (by rw [ht1]; simp)); have d3 := cell_of hc2.out 3; have f3 := free_of hc2.out 3)
 go_end0
 have hFa : Fr (fun t => t = (k,7,(j : Int)) ∨ t = (k,8,(j : Int))) tag tag1 w w2 := ((Fr.alloc hok _).trans (hF1.mono (fun _ h => h.elim))).trans (hF2.mono (fun _ h => .inr h))
 have hFs := Fr.setCell (S:=(· = (k,7,(j : Int)))) hF2.dom (a := ⟨it.ptr,3,none⟩) ht1 (.slice A2 (others p it.queue).length cap2)
 have hFb := hFa.trans (hFs.mono fun _ h => .inl h)
 refine ⟨rfl,tag1,⟨ht1,?_,⟨.slice A2 (others p it.queue).length cap2,?_,?_⟩,?_⟩,hFb⟩
 ·exact (hFb.same _ H.out.map.lt).trans H.out.ttm
 ·rw [Go.Ng.heap_setCell_same hc2.out]; rfl
 ·exact hr2.fr hFs (by simp)
 ·exact H.out.map.fr hFb (by rw [H.out.ttm]; simp)
theorem push_ok {tag : Nat → Tag} {k j : Nat} {it : ItemM} {w : World} (x : Asker) (h : ItemRep tag k w j it) (hok : TagOk tag w) (hk : k ≠ 0) (hn : it.queue.length ≤ 1000000) :
  Calls Try.prog 129 #[.pointer (some ⟨it.ptr,0,none⟩),.agg #[.int .i64 x.prop,.int .i64 x.place]] w fun e w' => e = .returned (.tuple #[]) ∧
   ∃ tag',ItemRep tag' k w' j { it with queue := it.queue ++ [x] } ∧ Fr (fun t => t = (k,7,(j : Int)) ∨ t = (k,8,(j : Int))) tag tag' w w' := by
 obtain ⟨i0,hi,hz0,hz1,hz2⟩ := info_parts Try.info116
 obtain ⟨qv,hc,hq⟩ := h.cells
 obtain ⟨A,cap,rfl,hcap,hcapm⟩ := hq.form
 unfold maxLen at hcapm
 have c3 : w.cell? ⟨it.ptr,3,none⟩ = some (.slice A it.queue.length cap) := cell_of hc 3
 have hpl := lt_of_heap hc
 have H := Lib.hid h
 have HC := Lib.hid hc
 clear h hc
 have hrd := (hq.rd (askers_one _))
 have hrd' : Rd 2 w (.slice A it.queue.length it.queue.length) it.queue.length (askers it.queue) := by
  refine ⟨hrd.len,hrd.one,?_⟩
  rcases hrd.form with ⟨hv,h0⟩ | ⟨b,off,cap',hv,_,_,h4⟩
  ·injection hv with hv _ _
   rw [hv,h0]; exact .inl ⟨rfl,rfl⟩
  ·injection hv with hv _ _
   rw [hv]; exact .inr ⟨b,off,_,rfl,Nat.le_refl _,by unfold maxLen; omega,h4⟩
 have HR := Lib.hid hrd'
 clear hrd hrd'
 go_enter Try.func129,Try.ntmps129
 go_wp2_with fail
 refine start_ (n:=22) (S:=fun w' => w'.cell? ⟨it.ptr,3,none⟩ = some (.slice A it.queue.length cap) ∧ w'.cell? ⟨w.heap.size,0,none⟩ = some (.int .i64 x.prop) ∧ w'.cell? ⟨w.heap.size,1,none⟩ = some (.int .i64 x.place)) (ds := [21]) #[f_,f_,f_,f_,f_,f_,f_,f_,f_,f_,f_,f_,f_,f_,f_,f_,f_,f_,f_,f_,f_,f_] (by kernel_rfl) rfl rfl ⟨ca c3 _,by go_simp,by go_simp⟩ (fun hHeld => ?_)
 refine pv_ (i:=0) (N:=some 4) (v:=?_) (a':=?_) rfl rfl (by kernel_rfl) (fun _ _ _ h => h) (Or.inl ⟨by rfl,?_⟩) ?_ ?_
 rotate_left;intro w';go_simp;with_reducible rfl;rotate_left;simp only [Act.put,sA_,sB_,sC_,i64_w,i32_w];rfl
 refine pv_ (i:=1) (N:=some 5) (v:=?_) (a':=?_) rfl rfl (by kernel_rfl) (fun _ _ _ h => h) (Or.inl ⟨by rfl,?_⟩) ?_ ?_
 rotate_left;intro w';go_simp;with_reducible rfl;rotate_left;simp only [Act.put,sA_,sB_,sC_,i64_w,i32_w];rfl
 refine pv_ (i:=2) (N:=some 6) (v:=?_) (a':=?_) rfl rfl (by kernel_rfl) (fun _ _ _ h => h) (Or.inl ⟨by rfl,?_⟩) ?_ ?_
 rotate_left;intro w';go_simp;with_reducible rfl;rotate_left;simp only [Act.put,sA_,sB_,sC_,i64_w,i32_w];rfl
 refine pv_ (i:=3) (N:=some 7) (v:=?_) (a':=?_) rfl rfl (by kernel_rfl) (fun _ _ _ h => h) (Or.inl ⟨by rfl,?_⟩) ?_ ?_
 rotate_left;intro w';go_simp;with_reducible rfl;rotate_left;simp only [Act.put,sA_,sB_,sC_,i64_w,i32_w];rfl
 refine pv_ (i:=5) (N:=some 9) (v:=?_) (a':=?_) rfl rfl (by kernel_rfl) (fun _ _ _ h => h) (Or.inl ⟨by rfl,?_⟩) ?_ ?_
 rotate_left;intro w';go_simp;with_reducible rfl;rotate_left;simp only [Act.put,sA_,sB_,sC_,i64_w,i32_w];rfl
 refine pv_ (i:=6) (N:=some 10) (v:=?_) (a':=?_) rfl rfl (by kernel_rfl) (fun _ _ _ h => h) (Or.inl ⟨by rfl,?_⟩) ?_ ?_
 rotate_left;intro w';go_simp;with_reducible rfl;rotate_left;simp only [Act.put,sA_,sB_,sC_,i64_w,i32_w];rfl
 refine pv_ (i:=7) (N:=some 11) (v:=?_) (a':=?_) rfl rfl (by kernel_rfl) (fun _ _ _ h => h) (Or.inl ⟨by rfl,?_⟩) ?_ ?_
 rotate_left;intro w';go_simp;with_reducible rfl;rotate_left;simp only [Act.put,sA_,sB_,sC_,i64_w,i32_w];rfl
 refine pv_ (i:=10) (N:=some 14) (v:=?_) (a':=?_) rfl rfl (by kernel_rfl) (fun _ _ _ h => h) (Or.inl ⟨by rfl,?_⟩) ?_ ?_
 rotate_left;intro w';go_simp;with_reducible rfl;rotate_left;simp only [Act.put,sA_,sB_,sC_,i64_w,i32_w];rfl
 refine pv_ (i:=11) (N:=some 15) (v:=?_) (a':=?_) rfl rfl (by kernel_rfl) (fun _ _ _ h => h) (Or.inl ⟨by rfl,?_⟩) ?_ ?_
 rotate_left;intro w';go_simp;with_reducible rfl;rotate_left;simp only [Act.put,sA_,sB_,sC_,i64_w,i32_w];rfl
 refine pv_ (i:=12) (N:=some 16) (v:=?_) (a':=?_) rfl rfl (by kernel_rfl) (fun _ _ _ h => h) (Or.inl ⟨by rfl,?_⟩) ?_ ?_
 rotate_left;intro w';go_simp;with_reducible rfl;rotate_left;simp only [Act.put,sA_,sB_,sC_,i64_w,i32_w];rfl
 refine tv_ (i:=4) (N:=some 8) (v:=?_) (a':=?_) rfl rfl (by kernel_rfl) (fun _ _ _ h => h) (Or.inl ⟨by rfl,?_⟩) hHeld ?_ ?_
 rotate_left;rintro w' ⟨s0,s1,s2⟩;go_simp;with_reducible rfl;rotate_left;simp only [Act.put,sA_,sB_,sC_,i64_w,i32_w];rfl
 refine tv_ (i:=8) (N:=some 12) (v:=?_) (a':=?_) rfl rfl (by kernel_rfl) (fun _ _ _ h => h) (Or.inl ⟨by rfl,?_⟩) hHeld ?_ ?_
 rotate_left;rintro w' ⟨s0,s1,s2⟩;go_simp;with_reducible rfl;rotate_left;simp only [Act.put,sA_,sB_,sC_,i64_w,i32_w];rfl
 refine pv_ (i:=9) (N:=some 13) (v:=?_) (a':=?_) rfl rfl (by kernel_rfl) (fun _ _ _ h => h) (Or.inl ⟨by rfl,?_⟩) ?_ ?_
 rotate_left;intro w';go_simp;with_reducible rfl;rotate_left;simp only [Act.put,sA_,sB_,sC_,i64_w,i32_w];rfl
 refine tv_ (i:=13) (N:=some 17) (v:=?_) (a':=?_) rfl rfl (by kernel_rfl) (fun _ _ _ h => h) (Or.inl ⟨by rfl,?_⟩) hHeld ?_ ?_
 rotate_left;rintro w' ⟨s0,s1,s2⟩;go_simp;with_reducible rfl;rotate_left;simp only [Act.put,sA_,sB_,sC_,i64_w,i32_w];rfl
 refine pv_ (i:=14) (N:=some 18) (v:=?_) (a':=?_) rfl rfl (by kernel_rfl) (fun _ _ _ h => h) (Or.inl ⟨by rfl,?_⟩) ?_ ?_
 rotate_left;intro w';go_simp;with_reducible rfl;rotate_left;simp only [Act.put,sA_,sB_,sC_,i64_w,i32_w];rfl
 refine pv_ (i:=15) (N:=some 19) (v:=?_) (a':=?_) rfl rfl (by kernel_rfl) (fun _ _ _ h => h) (Or.inl ⟨by rfl,?_⟩) ?_ ?_
 rotate_left;intro w';go_simp;with_reducible rfl;rotate_left;simp only [Act.put,sA_,sB_,sC_,i64_w,i32_w];rfl
 refine tv_ (i:=16) (N:=some 20) (v:=?_) (a':=?_) rfl rfl (by kernel_rfl) (fun _ _ _ h => h) (Or.inl ⟨by rfl,?_⟩) hHeld ?_ ?_
 rotate_left;rintro w' ⟨s0,s1,s2⟩;go_simp;with_reducible rfl;rotate_left;simp only [Act.put,sA_,sB_,sC_,i64_w,i32_w];rfl
 refine one_ (i:=17) (N:=some 21) #[t_,t_,t_,t_,t_,t_,t_,t_,t_,t_,t_,t_,t_,t_,t_,t_,t_,t_,f_,f_,f_,f_] rfl rfl (by kernel_rfl) (by decide) (fun K hK => ?_)
 refine value_ (w1:=?_) (v:=?_) (by rfl) rfl ?_ ?_
 rotate_left 2
 ·go_simp
  constructor
  ·rfl
  ·rfl
 refine hK.out _ _ ⟨(ca hHeld.1 _),(ca hHeld.2.1 _),(ca hHeld.2.2 _)⟩ (fun hHeld => ?_)
 clear hK K
 refine norm_ (a':=?_) ?_ ?_
 rotate_left
 ·show Act.put _ (some 21) _ = _
  simp only [Act.put,sA_,sB_,sC_,i64_w,i32_w]
  rfl
 refine one_ (i:=18) (N:=some 22) #[t_,t_,t_,t_,t_,t_,t_,t_,t_,t_,t_,t_,t_,t_,t_,t_,t_,t_,t_,f_,f_,f_] rfl rfl (by kernel_rfl) (by decide) (fun K hK => ?_)
 refine append_full_arm (k,8,(j : Int)) (by rfl) rfl (.tmp 19) (.tmp 21) 117 rfl (by rfl) (by rfl) ((HR.out.alloc _).alloc _).drew ((hok.alloc _).alloc _).drew Try.underlying117 hi hz0 hz1 hz2 rfl (by decide) (Asker.cells x) rfl (news_at (heap_alloc_at1 _ _ _)) (by simp [Asker.cells,Value.oneCell']) (by decide) (by unfold maxLen; omega) (by omega) ?_
 intro g cap1 w1 tag1 hrow hfr hge
 have hc1 := Lib.hid (hfr.heap (heap_alloc_lt (heap_alloc_lt HC.out _) _) (fun x => x))
 have d0 := cell_of hc1.out 3
 have d1 : w1.cell? ⟨w.heap.size,0,none⟩ = some (.int .i64 x.prop) := hfr.cellF (by go_simp)
 have d2 : w1.cell? ⟨w.heap.size,1,none⟩ = some (.int .i64 x.place) := hfr.cellF (by go_simp)
 have f3 := free_of hc1.out 3
 refine hK.out _ _ ⟨d0,d1,d2⟩ (fun hHeld => ?_)
 clear hK K
 refine norm_ (a':=?_) ?_ ?_
 rotate_left
 ·show Act.put _ (some 22) _ = _
  simp only [Act.put,sA_,sB_,sC_,i64_w,i32_w]
  rfl
 refine pv_ (i:=19) (N:=some 23) (v:=?_) (a':=?_) rfl rfl (by kernel_rfl) (fun _ _ _ h => h) (Or.inl ⟨by rfl,?_⟩) ?_ ?_
 rotate_left;intro w';go_simp;with_reducible rfl;rotate_left;simp only [Act.put,sA_,sB_,sC_,i64_w,i32_w];rfl
 refine pv_ (i:=20) (N:=some 24) (v:=?_) (a':=?_) rfl rfl (by kernel_rfl) (fun _ _ _ h => h) (Or.inl ⟨by rfl,?_⟩) ?_ ?_
 rotate_left;intro w';go_simp;with_reducible rfl;rotate_left;simp only [Act.put,sA_,sB_,sC_,i64_w,i32_w];rfl
 refine last_ (i:=21) (N:=none) #[t_,t_,t_,t_,t_,t_,t_,t_,t_,t_,t_,t_,t_,t_,t_,t_,t_,t_,t_,t_,t_,t_] rfl rfl (by kernel_rfl) (by decide) (fun K hK => ?_)
 refine skip_ (w1:=?_) (by rfl) rfl ?_ ?_
 rotate_left
 ·go_simp
  rfl
 refine hK.out _ _ ?_
 clear hK K
 refine done_ (by kernel_rfl) ?_
 have hF : Fr (fun _ => False) tag tag1 w w1 := (((Fr.alloc hok (.cells #[.int .i64 x.prop,.int .i64 x.place] 116)).trans (Fr.alloc (hok.alloc _) (.cells #[.int .i64 x.prop,.int .i64 x.place] 116))).trans (Fr.drew ((hok.alloc _).alloc _))).trans hfr
 have ht1 : tag1 it.ptr = (k,7,(j : Int)) := (hF.tag_eq HC.out).trans H.out.tptr
 have hFs := Fr.setCell (S:=(· = (k,7,(j : Int)))) hF.dom (a := ⟨it.ptr,3,none⟩) ht1 (.slice (some ⟨g,0,none⟩) (it.queue.length + 1) cap1)
 have hFb : Fr (fun t => t = (k,7,(j : Int)) ∨ t = (k,8,(j : Int))) tag tag1 w _ := (hF.mono (fun _ h => h.elim)).trans (hFs.mono fun _ h => .inl h)
 go_end0
 refine ⟨rfl,tag1,⟨ht1,?_,⟨.slice (some ⟨g,0,none⟩) (it.queue.length + 1) cap1,?_,?_⟩,?_⟩,hFb⟩
 ·exact (hFb.same _ H.out.map.lt).trans H.out.ttm
 ·rw [Go.Ng.heap_setCell_same hc1.out]; rfl
 ·have : askers (it.queue ++ [x]) = askers it.queue ++ x.cells := by simp [askers]
  rw [this,List.length_append]
  exact hrow.fr hFs (by simp)
 ·exact H.out.map.fr hFb (by rw [H.out.ttm]; simp)
end Go.Proofs.Ytclkokkppgchfaa
namespace Go.Ng
open Go Go.RowKit
def World.setObj (w : World) (b : Nat) (o : Obj) : World := { w with heap := w.heap.setIfInBounds b o }
theorem setObj_at {w : World} {b : Nat} {x : Obj} (h : w.heap[b]? = some x) (o : Obj) : (World.setObj w b o).heap[b]? = some o := by
 have := lt_of_heap h
 simp [World.setObj,this]
theorem setObj_ne {w : World} {b k : Nat} (h : k ≠ b) (o : Obj) : (World.setObj w b o).heap[k]? = w.heap[k]? := by
 simp [World.setObj,Ne.symm h]
theorem Fr.setObj {S : Tag → Prop} {tag : Nat → Tag} {w : World} (h : TagOk tag w) {b : Nat} (hb : S (tag b)) (o : Obj) : Fr S tag tag w (World.setObj w b o) :=
 ⟨rfl,rfl,rfl,by simp [World.setObj],fun _ _ => rfl,fun k _ hs => setObj_ne (fun (e : k = b) => hs (by rw [e]; exact hb)) o,fun k hk => by simpa [World.setObj] using h k hk⟩
section
variable {α : Type} (key : α → Int) (val : α → Value)
theorem findNow_ints (n : Int) : ∀ (es : List MapEntry) (xs : List α) (i : Nat),es.map (fun e => (e.key,e.val)) = xs.map (fun x => (Value.int .i64 (key x),val x)) →
  Instr.findNow (.int .i64) (.int .i64 n) es i = some ((xs.findIdx? fun x => key x == n).map fun j => (i + j,(xs.map val).getD j undef))
 | [],xs,i,h => by
  have : xs = [] := by simpa using h.symm
  subst this
  rfl
 | e :: es,[],i,h => by simp at h
 | e :: es,x :: xs,i,h => by
  simp only [List.map_cons,List.cons.injEq,Prod.mk.injEq] at h
  obtain ⟨⟨h1,h2⟩,h3⟩ := h
  rw [Instr.findNow,h1]
  simp only [Instr.sameNow,if_true,List.findIdx?_cons]
  by_cases e1 : n = key x
  ·subst e1; simp [h2]
  ·have e2 : (n == key x) = false := by simpa using e1
   have e3 : (key x == n) = false := by simpa using (fun h => e1 h.symm)
   rw [e2,e3]
   simp only [findNow_ints n es xs (i + 1) h3,Bool.false_eq_true,if_false,Option.map_map]
   congr 1
   cases xs.findIdx? (fun x => key x == n) with
   | none => rfl
   | some j => simp; omega
end
section
variable {P : Program} {w : World} {T K E : TypeId}
theorem checkKey_int (n : Nat) (hK : P.underlying K = some (.int .i64)) (m : Int) (e : Bool) : (Instr.checkKey e (n + 1) K (.int .i64 m)).run P w = .ok () w := by
 simp [Instr.checkKey,run_underlying hK]
theorem run_getObj_map {b : Nat} {es : Array MapEntry} {c : Nat} (h : w.heap[b]? = some (.map es c)) : (getObj b).run P w = .ok (.map es c) w := by
 simp [getObj,Sem.run,h]
theorem run_setObj_map {b : Nat} {es : Array MapEntry} {c : Nat} (h : w.heap[b]? = some (.map es c)) (o : Obj) : (setObj b o).run P w = .ok () (World.setObj w b o) := by
 simp [Go.setObj,Sem.run,h,World.setObj]
def lookV {α : Type} (key : α → Int) (val : α → Value) (z : Value) (xs : List α) (n : Int) : Value := ((xs.find? fun x => key x == n).map val).getD z
theorem lookV_idx {α : Type} (key : α → Int) (val : α → Value) (z : Value) (n : Int) : ∀ xs : List α,lookV key val z xs n = match xs.findIdx? (fun x => key x == n) with | some j => (xs.map val).getD j undef | none => z
 | [] => rfl
 | x :: xs => by
  have ih := lookV_idx key val z n xs
  unfold lookV at *
  rw [List.find?_cons,List.findIdx?_cons]
  by_cases h : (key x == n) = true
  ·rw [h]; rfl
  ·have h' : (key x == n) = false := by simpa using h
   rw [h']
   simp only [Bool.false_eq_true,if_false]
   rw [ih]
   cases xs.findIdx? (fun x => key x == n) <;> rfl
theorem run_look {α : Type} (key : α → Int) (val : α → Value) (z : Value) {b : Nat} {xs : List α} (h : Proofs.Ytclkokkppgchfaa.MapIs w b (xs.map fun x => (.int .i64 (key x),val x)))
  (hT : P.underlying T = some (.map K E)) (hK : P.underlying K = some (.int .i64)) (hz : (zeroValue E).run P w = .ok z w) (n : Int) :
  (Instr.lookup T (.map (some b)) (.int .i64 n) false).run P w = .ok (lookV key val z xs n) w := by
 obtain ⟨es,c,h1,h2⟩ := h
 have hf := findNow_ints key val n es.toList xs 0 h2
 have hfk : (Instr.findKey K (.int .i64 n) es.toList).run P w = .ok ((xs.findIdx? fun x => key x == n).map fun j => (0 + j,(xs.map val).getD j undef)) w := by
  simp [Instr.findKey,run_underlying hK,hf]
 rw [lookV_idx]
 cases hx : xs.findIdx? (fun x => key x == n) with
 | none =>
  rw [hx] at hfk
  simp [Instr.lookup,run_underlying hT,run_getObj_map h1,checkKey_int 9999 hK,hfk,hz]
 | some j =>
  rw [hx] at hfk
  simp [Instr.lookup,run_underlying hT,run_getObj_map h1,checkKey_int 9999 hK,hfk]
theorem run_put_old {α : Type} (key : α → Int) (val : α → Value) {b : Nat} {xs : List α} (h : Proofs.Ytclkokkppgchfaa.MapIs w b (xs.map fun x => (.int .i64 (key x),val x)))
  (hT : P.underlying T = some (.map K E)) (hK : P.underlying K = some (.int .i64)) (n : Int) (v : Value) {j : Nat} (hj : xs.findIdx? (fun x => key x == n) = some j) :
  ∃ w',(Instr.mapUpdate T (.map (some b)) (.int .i64 n) v).run P w = .ok () w' ∧ (∃ o,w' = World.setObj w b o) ∧ Proofs.Ytclkokkppgchfaa.MapIs w' b ((xs.map fun x => (Value.int .i64 (key x),val x)).set j (.int .i64 n,v)) := by
 obtain ⟨es,c,h1,h2⟩ := h
 have hf := findNow_ints key val n es.toList xs 0 h2
 have hfk : (Instr.findKey K (.int .i64 n) es.toList).run P w = .ok (some (0 + j,(xs.map val).getD j undef)) w := by
  simp [Instr.findKey,run_underlying hK,hf,hj]
 have hlen : es.size = xs.length := by have := congrArg List.length h2; simpa using this
 rw [List.findIdx?_eq_some_iff_getElem] at hj
 obtain ⟨hjl,hkj,_⟩ := hj
 have hkey : (es[j]'(by omega)).key = .int .i64 n := by
  have h3 : (es.toList.map fun e => (e.key,e.val))[j]? = (xs.map fun x => (Value.int .i64 (key x),val x))[j]? := by rw [h2]
  rw [List.getElem?_map,List.getElem?_map,List.getElem?_eq_getElem (by simpa [hlen] using hjl),List.getElem?_eq_getElem hjl] at h3
  simp at h3
  rw [h3.1]
  simpa using hkj
 refine ⟨World.setObj w b (.map (es.modify j fun e => { e with key := .int .i64 n,val := v }) c),?_,⟨_,rfl⟩,⟨_,c,setObj_at h1 _,?_⟩⟩
 ·have hst := run_setObj_map (P := P) h1 (.map (es.modify j fun e => { e with key := .int .i64 n,val := v }) c)
  have hk2 : (es[j]?.map (·.key)).getD (.int .i64 n) = .int .i64 n := by rw [Array.getElem?_eq_getElem (by omega)]; exact hkey
  simp [Instr.mapUpdate,run_underlying hT,run_getObj_map h1,checkKey_int 9999 hK,hfk,Instr.keyThatStays,hk2,Instr.sameBits,hst]
 ·rw [← h2]
  apply List.ext_getElem?
  intro i
  rw [List.getElem?_map,List.getElem?_set,Array.getElem?_toList,Array.getElem?_modify]
  by_cases e : j = i
  ·subst e
   simp [hlen,hjl]
  ·simp [e]
theorem run_put_new {α : Type} (key : α → Int) (val : α → Value) {b : Nat} {xs : List α} (h : Proofs.Ytclkokkppgchfaa.MapIs w b (xs.map fun x => (.int .i64 (key x),val x)))
  (hT : P.underlying T = some (.map K E)) (hK : P.underlying K = some (.int .i64)) (n : Int) (v : Value) (hj : xs.findIdx? (fun x => key x == n) = none) :
  ∃ w',(Instr.mapUpdate T (.map (some b)) (.int .i64 n) v).run P w = .ok () w' ∧ (∃ o,w' = World.setObj w b o) ∧ Proofs.Ytclkokkppgchfaa.MapIs w' b ((xs.map fun x => (Value.int .i64 (key x),val x)) ++ [(.int .i64 n,v)]) := by
 obtain ⟨es,c,h1,h2⟩ := h
 have hf := findNow_ints key val n es.toList xs 0 h2
 have hfk : (Instr.findKey K (.int .i64 n) es.toList).run P w = .ok none w := by
  simp [Instr.findKey,run_underlying hK,hf,hj]
 refine ⟨World.setObj w b (.map (es.push { key := .int .i64 n,val := v,born := c }) (c + 1)),?_,⟨_,rfl⟩,⟨_,c + 1,setObj_at h1 _,?_⟩⟩
 ·have hst := run_setObj_map (P := P) h1 (.map (es.push { key := .int .i64 n,val := v,born := c }) (c + 1))
  simp [Instr.mapUpdate,run_underlying hT,run_getObj_map h1,checkKey_int 9999 hK,hfk,hst]
 ·simp [h2]
section
variable {ops : Array Oper} {Q : Exit → Act → World → Prop}
theorem put_arm {oi : Oper} {a : Act} {K' : Act → World → Prop} (hw : Region.wanted oi (yielded ops a.tmps) = true) (hN : oi.dst = none) (m k x : Operand) (hop : oi.op = .mapUpdate T m k x) {mv kv xv : Value} (hm : a.eval m = mv) (hk : a.eval k = kv) (hx : a.eval x = xv)
  {w' : World} (hr : (Instr.mapUpdate T mv kv xv).run P w = .ok () w') (h : K' a w') : if Region.wanted oi (yielded ops a.tmps) = true then Oper.wp P oi a w K' Q else K' (a.put none undef) w := by
 refine Proofs.YtclkokkppgchfaaW.PrintLast.skip_ hw hN (w1:=w') ?_ h
 unfold execOp
 simp only [hop,hm,hk,hx,Sem.run_bind,hr,Result.andThen_ok]
 rfl
end
end
end Go.Ng
namespace Go.Proofs.Ytclkokkppgchfaa
open Go.RowKit Go.Ng Go.Proofs.YtclkokkppgchfaaW.PrintLast
def addT (n : Int) (l : List Int) : List Int := if n ∈ l then l else l ++ [n]
def grantM (P : PlaceM) (j : Nat) (it : ItemM) (n : Int) (a : Asker) : PlaceM := (P.setItem j { it with held := true,lk := a }).send 2 a.place a.prop n 0
def refuseM (P : PlaceM) (j : Nat) (it : ItemM) (n : Int) (a : Asker) : PlaceM := (P.setItem j { it with through := addT a.prop it.through }).send 3 a.place a.prop n 0
theorem grant_ok {tag : Nat → Tag} {k j : Nat} {P : PlaceM} {it : ItemM} {w : World} (n : Int) (a : Asker) (hP : PRep tag k w P) (hok : TagOk tag w) (hj : P.items[j]? = some (some it)) (hn : P.out.length ≤ 1000000) :
  Calls Try.prog 130 #[.pointer (some ⟨P.ptr,0,none⟩),.pointer (some ⟨it.ptr,0,none⟩),.int .i64 n,.agg #[.int .i64 a.prop,.int .i64 a.place]] w fun e w' => e = .returned (.tuple #[]) ∧
   ∃ tag',PRep tag' k w' (grantM P j it n a) ∧ Fr (fun t => t.1 = k) tag tag' w w' := by
 obtain ⟨qv,hc,hq⟩ := (hP.items j it hj).cells
 have c0 := cell_of hc 0
 have c1 := cell_of hc 1
 have c2 := cell_of hc 2
 have f0 := free_of hc 0
 have f1 := free_of hc 1
 have f2 := free_of hc 2
 have hpl := lt_of_heap hc
 have HP := Lib.hid hP
 have HI := Lib.hid (hP.items j it hj)
 have HC := Lib.hid hc
 clear hP hc
 go_enter Try.func130,Try.ntmps130
 go_wp2_with fail
 refine start_ (n:=11) (S:=fun w' => w'.cell? ⟨w.heap.size,0,none⟩ = some (.int .i64 a.prop) ∧ w'.cell? ⟨w.heap.size,1,none⟩ = some (.int .i64 a.place)) (ds := [10]) #[f_,f_,f_,f_,f_,f_,f_,f_,f_,f_,f_] (by kernel_rfl) rfl rfl ⟨by go_simp,by go_simp⟩ (fun hHeld => ?_)
 refine pv_ (i:=0) (N:=some 8) (v:=?_) (a':=?_) rfl rfl (by kernel_rfl) (fun _ _ _ h => h) (Or.inl ⟨by rfl,?_⟩) ?_ ?_
 rotate_left;intro w';go_simp;with_reducible rfl;rotate_left;simp only [Act.put,sA_,sB_,sC_,i64_w,i32_w];rfl
 refine pv_ (i:=1) (N:=some 9) (v:=?_) (a':=?_) rfl rfl (by kernel_rfl) (fun _ _ _ h => h) (Or.inl ⟨by rfl,?_⟩) ?_ ?_
 rotate_left;intro w';go_simp;with_reducible rfl;rotate_left;simp only [Act.put,sA_,sB_,sC_,i64_w,i32_w];rfl
 refine pv_ (i:=3) (N:=some 11) (v:=?_) (a':=?_) rfl rfl (by kernel_rfl) (fun _ _ _ h => h) (Or.inl ⟨by rfl,?_⟩) ?_ ?_
 rotate_left;intro w';go_simp;with_reducible rfl;rotate_left;simp only [Act.put,sA_,sB_,sC_,i64_w,i32_w];rfl
 refine pv_ (i:=4) (N:=some 12) (v:=?_) (a':=?_) rfl rfl (by kernel_rfl) (fun _ _ _ h => h) (Or.inl ⟨by rfl,?_⟩) ?_ ?_
 rotate_left;intro w';go_simp;with_reducible rfl;rotate_left;simp only [Act.put,sA_,sB_,sC_,i64_w,i32_w];rfl
 refine pv_ (i:=5) (N:=some 13) (v:=?_) (a':=?_) rfl rfl (by kernel_rfl) (fun _ _ _ h => h) (Or.inl ⟨by rfl,?_⟩) ?_ ?_
 rotate_left;intro w';go_simp;with_reducible rfl;rotate_left;simp only [Act.put,sA_,sB_,sC_,i64_w,i32_w];rfl
 refine tv_ (i:=2) (N:=some 10) (v:=?_) (a':=?_) rfl rfl (by kernel_rfl) (fun _ _ _ h => h) (Or.inl ⟨by rfl,?_⟩) hHeld ?_ ?_
 rotate_left;rintro w' ⟨s0,s1⟩;go_simp;with_reducible rfl;rotate_left;simp only [Act.put,sA_,sB_,sC_,i64_w,i32_w];rfl
 refine one_ (i:=6) (N:=none) #[t_,t_,t_,t_,t_,t_,t_,f_,f_,f_,f_] rfl rfl (by kernel_rfl) (by decide) (fun K hK => ?_)
 refine skip_ (w1:=?_) (by rfl) rfl ?_ ?_
 rotate_left
 ·go_simp
  rfl
 refine hK.out _ _ ⟨(by go_simp),(by go_simp)⟩ (fun hHeld => ?_)
 clear hK K
 refine pv_ (i:=7) (N:=some 14) (v:=?_) (a':=?_) rfl rfl (by kernel_rfl) (fun _ _ _ h => h) (Or.inl ⟨by rfl,?_⟩) ?_ ?_
 rotate_left;intro w';go_simp;with_reducible rfl;rotate_left;simp only [Act.put,sA_,sB_,sC_,i64_w,i32_w];rfl
 refine pv_ (i:=8) (N:=some 15) (v:=?_) (a':=?_) rfl rfl (by kernel_rfl) (fun _ _ _ h => h) (Or.inl ⟨by rfl,?_⟩) ?_ ?_
 rotate_left;intro w';go_simp;with_reducible rfl;rotate_left;simp only [Act.put,sA_,sB_,sC_,i64_w,i32_w];rfl
 refine pv_ (i:=9) (N:=some 16) (v:=?_) (a':=?_) rfl rfl (by kernel_rfl) (fun _ _ _ h => h) (Or.inl ⟨by rfl,?_⟩) ?_ ?_
 rotate_left;intro w';go_simp;with_reducible rfl;rotate_left;simp only [Act.put,sA_,sB_,sC_,i64_w,i32_w];rfl
 refine last_ (i:=10) (N:=none) #[t_,t_,t_,t_,t_,t_,t_,t_,t_,t_,t_] rfl rfl (by kernel_rfl) (by decide) (fun K hK => ?_)
 refine skip_ (w1:=?_) (by rfl) rfl ?_ ?_
 rotate_left
 ·go_simp
  rfl
 refine hK.out _ _ ?_
 clear hK K
 refine done_ (by kernel_rfl) ?_
 have h1 := Lib.hid (Go.Ng.heap_setCell_same (Go.Ng.heap_setCell_same (Go.Ng.heap_setCell_same HC.out 0 (.bool true)) 1 (.int .i64 a.prop)) 2 (.int .i64 a.place))
 have ht : tag it.ptr = (k,7,(j : Int)) := HI.out.tptr
 have hF3 : Fr (· = (k,7,(j : Int))) tag tag w (((w.setCell ⟨it.ptr,0,none⟩ (.bool true)).setCell ⟨it.ptr,1,none⟩ (.int .i64 a.prop)).setCell ⟨it.ptr,2,none⟩ (.int .i64 a.place)) :=
  ((Fr.setCell hok (a := ⟨it.ptr,0,none⟩) ht _).trans (Fr.setCell (hok.setCell _ _) (a := ⟨it.ptr,1,none⟩) ht _)).trans (Fr.setCell ((hok.setCell _ _).setCell _ _) (a := ⟨it.ptr,2,none⟩) ht _)
 have hI3 : ItemRep tag k (((w.setCell ⟨it.ptr,0,none⟩ (.bool true)).setCell ⟨it.ptr,1,none⟩ (.int .i64 a.prop)).setCell ⟨it.ptr,2,none⟩ (.int .i64 a.place)) j { it with held := true,lk := a } :=
  ⟨ht,HI.out.ttm,⟨qv,h1.out,hq.fr hF3 (by simp)⟩,HI.out.map.fr hF3 (by rw [HI.out.ttm]; simp)⟩
 have hP3 := HP.out.item_upd hj (it' := { it with held := true,lk := a }) rfl hI3 hF3 (fun t h => .inl h)
 have hF4 : Fr (fun _ => False) tag tag _ ((((w.setCell ⟨it.ptr,0,none⟩ (.bool true)).setCell ⟨it.ptr,1,none⟩ (.int .i64 a.prop)).setCell ⟨it.ptr,2,none⟩ (.int .i64 a.place)).alloc (.cells #[.int .i64 a.prop,.int .i64 a.place] 116)).drew :=
  (Fr.alloc hF3.dom _).trans (Fr.drew (hF3.dom.alloc _))
 have hP4 := Lib.hid (hP3.fr hF4 (fun _ _ x => x))
 have HF3 := Lib.hid hF3
 have HF4 := Lib.hid hF4
 clear hI3 hP3 hF3 hF4 h1 hHeld
 go_wp2_with (go_at_call 77; refine (send_ok 2 a.place a.prop n 0 hP4.out HF4.out.dom hn).mono ?_; rintro e w' ⟨rfl,tag',hP',hF'⟩)
 go_end0
 refine ⟨rfl,tag',hP',?_⟩
 exact ((HF3.out.mono (fun t (h : t = _) => by rw [h])).trans (HF4.out.mono (fun _ h => h.elim))).trans (hF'.mono (fun t h => by rcases h with h | h <;> rw [h]))
theorem MapIs.add {tag tag' : Nat → Tag} {w : World} {b : Nat} {l : List Int} (h : MapIs w b (l.map fun n => (.int .i64 n,.bool true))) (n : Int) :
  ∃ w',(Instr.mapUpdate 66 (.map (some b)) (.int .i64 n) (.bool true)).run Try.prog w = .ok () w' ∧ (∃ o,w' = World.setObj w b o) ∧ MapIs w' b ((addT n l).map fun n => (.int .i64 n,.bool true)) := by
 cases hf : l.findIdx? (fun x => x == n) with
 | none =>
  obtain ⟨w',h1,h2,h3⟩ := run_put_new (P := Try.prog) (T := 66) (K := 3) (E := 4) (fun x : Int => x) (fun _ => .bool true) h Try.underlying66 Try.underlying3 n (.bool true) hf
  refine ⟨w',h1,h2,?_⟩
  have hn : n ∉ l := by
   intro hm
   rw [List.findIdx?_eq_none_iff] at hf
   simpa using hf n hm
  rw [addT,if_neg hn]
  simpa using h3
 | some i =>
  obtain ⟨w',h1,h2,h3⟩ := run_put_old (P := Try.prog) (T := 66) (K := 3) (E := 4) (fun x : Int => x) (fun _ => .bool true) h Try.underlying66 Try.underlying3 n (.bool true) hf
  refine ⟨w',h1,h2,?_⟩
  rw [List.findIdx?_eq_some_iff_getElem] at hf
  obtain ⟨hi,hp,_⟩ := hf
  have hp' : l[i] = n := by simpa using hp
  have hn : n ∈ l := by rw [← hp']; exact List.getElem_mem hi
  rw [addT,if_pos hn]
  have he : (l.map fun x => (Value.int .i64 x,Value.bool true)).set i (.int .i64 n,.bool true) = l.map fun x => (Value.int .i64 x,Value.bool true) := by
   apply List.ext_getElem?
   intro m
   rw [List.getElem?_set]
   by_cases e : i = m
   ·subst e; simp [hi,hp']
   ·simp [e]
  rw [he] at h3
  exact h3
theorem new_ne {tag : Nat → Tag} {w : World} {k r : Nat} {i : Int} (hok : TagOk tag w) (hk : k ≠ 0) : tag w.heap.size ≠ (k,r,i) := fun e => by
 have := hok.new
 rw [e] at this
 exact hk this
theorem refuse_ok {tag : Nat → Tag} {k j : Nat} {P : PlaceM} {it : ItemM} {w : World} (n : Int) (a : Asker) (hP : PRep tag k w P) (hok : TagOk tag w) (hj : P.items[j]? = some (some it)) (hn : P.out.length ≤ 1000000) :
  Calls Try.prog 128 #[.pointer (some ⟨P.ptr,0,none⟩),.pointer (some ⟨it.ptr,0,none⟩),.int .i64 n,.agg #[.int .i64 a.prop,.int .i64 a.place]] w fun e w' => e = .returned (.tuple #[]) ∧
   ∃ tag',PRep tag' k w' (refuseM P j it n a) ∧ Fr (fun t => t = (k,1,0) ∨ t = (k,5,0) ∨ t = (k,9,(j : Int))) tag tag' w w' := by
 obtain ⟨qv,hc,hq⟩ := (hP.items j it hj).cells
 have c5 : w.cell? ⟨it.ptr,5,none⟩ = some (.map (some it.tm)) := cell_of hc 5
 have hpl := lt_of_heap hc
 have hk0 := hP.k0
 have HP := Lib.hid hP
 have HI := Lib.hid (hP.items j it hj)
 have HC := Lib.hid hc
 clear hP hc
 have hF0 : Fr (fun _ => False) tag tag w (w.alloc (.cells #[.int .i64 a.prop,.int .i64 a.place] 116)).drew := (Fr.alloc hok _).trans (Fr.drew (hok.alloc _))
 obtain ⟨w1,hrun,⟨o,ho⟩,hm1⟩ := MapIs.add (tag := tag) (tag' := tag) (HI.out.map.fr hF0 (fun x => x)) a.prop
 have hF1 : Fr (· = (k,9,(j : Int))) tag tag (w.alloc (.cells #[.int .i64 a.prop,.int .i64 a.place] 116)).drew w1 := by
  rw [ho]; exact Fr.setObj hF0.dom HI.out.ttm o
 clear ho
 have e0 : w1.cell? ⟨w.heap.size,0,none⟩ = some (.int .i64 a.prop) := hF1.cell (by go_simp) (new_ne hok hk0)
 have e1 : w1.cell? ⟨w.heap.size,1,none⟩ = some (.int .i64 a.place) := hF1.cell (by go_simp) (new_ne hok hk0)
 have HR := Lib.hid hrun
 have HM := Lib.hid hm1
 have HF0 := Lib.hid hF0
 have HF1 := Lib.hid hF1
 clear hrun hm1 hF0 hF1
 go_enter Try.func128,Try.ntmps128
 go_wp2_with fail
 refine start_ (n:=7) (S:=fun w' => w'.cell? ⟨w.heap.size,0,none⟩ = some (.int .i64 a.prop) ∧ w'.cell? ⟨it.ptr,5,none⟩ = some (.map (some it.tm))) (ds := [6]) #[f_,f_,f_,f_,f_,f_,f_] (by kernel_rfl) rfl rfl ⟨by go_simp,by go_simp⟩ (fun hHeld => ?_)
 refine pv_ (i:=0) (N:=some 8) (v:=?_) (a':=?_) rfl rfl (by kernel_rfl) (fun _ _ _ h => h) (Or.inl ⟨by rfl,?_⟩) ?_ ?_
 rotate_left;intro w';go_simp;with_reducible rfl;rotate_left;simp only [Act.put,sA_,sB_,sC_,i64_w,i32_w];rfl
 refine pv_ (i:=1) (N:=some 9) (v:=?_) (a':=?_) rfl rfl (by kernel_rfl) (fun _ _ _ h => h) (Or.inl ⟨by rfl,?_⟩) ?_ ?_
 rotate_left;intro w';go_simp;with_reducible rfl;rotate_left;simp only [Act.put,sA_,sB_,sC_,i64_w,i32_w];rfl
 refine pv_ (i:=2) (N:=some 10) (v:=?_) (a':=?_) rfl rfl (by kernel_rfl) (fun _ _ _ h => h) (Or.inl ⟨by rfl,?_⟩) ?_ ?_
 rotate_left;intro w';go_simp;with_reducible rfl;rotate_left;simp only [Act.put,sA_,sB_,sC_,i64_w,i32_w];rfl
 refine pv_ (i:=4) (N:=some 12) (v:=?_) (a':=?_) rfl rfl (by kernel_rfl) (fun _ _ _ h => h) (Or.inl ⟨by rfl,?_⟩) ?_ ?_
 rotate_left;intro w';go_simp;with_reducible rfl;rotate_left;simp only [Act.put,sA_,sB_,sC_,i64_w,i32_w];rfl
 refine tv_ (i:=3) (N:=some 11) (v:=?_) (a':=?_) rfl rfl (by kernel_rfl) (fun _ _ _ h => h) (Or.inl ⟨by rfl,?_⟩) hHeld ?_ ?_
 rotate_left;rintro w' ⟨s0,s1⟩;go_simp;with_reducible rfl;rotate_left;simp only [Act.put,sA_,sB_,sC_,i64_w,i32_w];rfl
 refine tv_ (i:=5) (N:=some 13) (v:=?_) (a':=?_) rfl rfl (by kernel_rfl) (fun _ _ _ h => h) (Or.inl ⟨by rfl,?_⟩) hHeld ?_ ?_
 rotate_left;rintro w' ⟨s0,s1⟩;go_simp;with_reducible rfl;rotate_left;simp only [Act.put,sA_,sB_,sC_,i64_w,i32_w];rfl
 refine last_ (i:=6) (N:=none) #[t_,t_,t_,t_,t_,t_,t_] rfl rfl (by kernel_rfl) (by decide) (fun K hK => ?_)
 refine put_arm (T := 66) (by rfl) rfl (.tmp 11) (.tmp 13) (.const (.bool true)) rfl (by rfl) (by rfl) (by rfl) HR.out ?_
 refine hK.out _ _ ?_
 clear hK K
 refine done_ (by kernel_rfl) ?_
 have hIa := HI.out.fr HF0.out (fun x => x) (fun x => x) (fun x => x)
 have hI3 : ItemRep tag k w1 j { it with through := addT a.prop it.through } := by
  obtain ⟨qv',hc',hq'⟩ := hIa.cells
  exact ⟨hIa.tptr,hIa.ttm,⟨qv',HF1.out.heap hc' (by rw [hIa.tptr]; simp),hq'.fr HF1.out (by simp)⟩,HM.out⟩
 have hP3 := Lib.hid ((HP.out.fr HF0.out (fun _ _ x => x)).item_upd hj (it' := { it with through := addT a.prop it.through }) rfl hI3 HF1.out (fun t h => .inr (.inr h)))
 clear hI3 hIa
 go_wp2_with (go_at_call 77; refine (send_ok 3 a.place a.prop n 0 hP3.out HF1.out.dom hn).mono ?_; rintro e w' ⟨rfl,tag',hP',hF'⟩)
 go_end0
 refine ⟨rfl,tag',hP',?_⟩
 exact ((HF0.out.mono (fun _ h => h.elim)).trans (HF1.out.mono (fun t (h : t = _) => .inr (.inr h)))).trans (hF'.mono (fun t h => by rcases h with h | h; exact .inl h; exact .inr (.inl h)))
end Go.Proofs.Ytclkokkppgchfaa
