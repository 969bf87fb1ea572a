/- A part of the proof: texts of this session, joined. -/
import Derived.Test.YtclkokkppgchfaaNegoPlacesOwn13
import Derived.Test.YtclkokkppgchfaaPart10
import Derived.Test.YtclkokkppgchfaaShort
set_option linter.unusedSimpArgs false
set_option linter.unusedVariables false
set_option maxHeartbeats 12800000
set_option maxRecDepth 100000
namespace Go.Proofs.Ytclkokkppgchfaa
open Go.RowKit Go.Ng Go.Proofs.YtclkokkppgchfaaW.PrintLast
section
variable {S : Tag → Prop} {tag tagr : Nat → Tag} {w wr : World} {T T' t : Tag}
def retag (tagr : Nat → Tag) (T T' : Tag) : Nat → Tag := fun b => if tagr b = T then T' else tagr b
theorem _root_.Go.Ng.Fr.retag (hF : Fr S tag tagr w wr) (hT : T.1 ≠ 0) (hno : ∀ b,b < w.heap.size → tag b ≠ T) : Fr S tag (retag tagr T T') w wr :=
 ⟨hF.os,hF.tape,hF.output,hF.size,fun b hb => by
  have h1 := hF.same b hb
  rw [Ytclkokkppgchfaa.retag,if_neg (by rw [h1]; exact hno b hb),h1],hF.block,fun b hb => by
  rw [Ytclkokkppgchfaa.retag] at hb
  split at hb
  ·rename_i e
   exact hF.dom b (by rw [e]; exact hT)
  ·exact hF.dom b hb⟩
theorem _root_.Go.Ng.Fr.drop (hF : Fr (fun t => S t ∨ t = T) tag tagr w wr) (hno : ∀ b,b < w.heap.size → tag b ≠ T) : Fr S tag tagr w wr :=
 ⟨hF.os,hF.tape,hF.output,hF.size,hF.same,fun b hb hs => hF.block b hb (fun h => h.elim hs (hno b hb)),hF.dom⟩
theorem _root_.Go.Ng.Row.retag {E sz n : Nat} {v : Value} {ks : List Value} (h : Row tagr T E sz wr v n ks) (T' : Tag) : Row (retag tagr T T') T' E sz wr v n ks := by
 rcases h with ⟨h,ht⟩ | h
 ·exact .inl ⟨h,fun b hb => if_pos (ht b hb)⟩
 ·exact .inr h
theorem _root_.Go.Ng.Row.retag_ne {E sz n : Nat} {v : Value} {ks : List Value} (h : Row tagr t E sz wr v n ks) (T' : Tag) (ht : t ≠ T) : Row (retag tagr T T') t E sz wr v n ks :=
 h.keep fun b hb hbt => ⟨by rw [Ytclkokkppgchfaa.retag,if_neg (by rw [hbt]; exact ht),hbt],rfl⟩
theorem retag_zero {b : Nat} (h : (tagr b).1 = 0) (hT : T.1 ≠ 0) : (retag tagr T T' b).1 = 0 := by
 rw [retag,if_neg (by rintro e; rw [e] at h; exact hT h)]; exact h
end
theorem others_self {a : Asker} {l : List Asker} (h : ((a :: l).map (·.prop)).Nodup) : others a.prop (a :: l) = l := by
 rw [List.map_cons,List.nodup_cons] at h
 simp only [others,isProp,List.filter_cons,beq_self_eq_true,Bool.not_true,Bool.false_eq_true,if_false]
 rw [List.filter_eq_self]
 intro x hx
 have : x.prop ≠ a.prop := fun e => h.1 (by rw [← e]; exact List.mem_map_of_mem hx)
 simpa using this
theorem others_nodup {l : List Asker} (p : Int) (h : (l.map (·.prop)).Nodup) : ((others p l).map (·.prop)).Nodup :=
 h.sublist (List.filter_sublist.map _)
theorem _root_.Go.Ng.ORow.frF' {tag tag' : Nat → Tag} {w w' : World} {t : Tag} {sz n : Nat} {v : Value} {ks : List Value} (h : ORow tag t sz w v n ks) (hf : Fr (fun _ => False) tag tag' w w') : ORow tag' t sz w' v n ks := h.fr hf (fun x => x)
theorem post_cell {S : Tag → Prop} {tag tag0 : Nat → Tag} {w0 w7 : World} {b1 : Nat} {o0 o1 : Value} (hF : Fr S tag0 tag w0 w7) (h0 : w0.heap.size ≤ b1) (hz : w7.heap[b1]? = some (.cells #[o0,o1] 41 (0,0))) (T : Tag) (m : Post) (htb : (tag b1).1 = 0) {wz : World}
  (hwz : wz = (w7.setCell ⟨b1,0,none⟩ (.slice (some ⟨w7.heap.size,0,none⟩) 1 1)).alloc (.cells m.cells.toArray 49)) :
  Fr S tag0 (give tag w7.heap.size T) w0 wz ∧ Row (give tag w7.heap.size T) T 49 6 wz (.slice (some ⟨w7.heap.size,0,none⟩) 1 1) 1 (posts [m]) ∧
   Fr (fun t => t.1 = 0) tag (give tag w7.heap.size T) w7 wz ∧ wz.heap[b1]? = some (.cells #[.slice (some ⟨w7.heap.size,0,none⟩) 1 1,o1] 41 (0,0)) := by
 subst hwz
 have hs : (w7.setCell ⟨b1,0,none⟩ (.slice (some ⟨w7.heap.size,0,none⟩) 1 1)).heap.size = w7.heap.size := by simp
 have h1 := hF.scn h0 0 (.slice (some ⟨w7.heap.size,0,none⟩) 1 1)
 have h2 : Fr (fun t => t.1 = 0) tag tag w7 (w7.setCell ⟨b1,0,none⟩ (.slice (some ⟨w7.heap.size,0,none⟩) 1 1)) := (Fr.refl hF.dom).sc b1 _ _ htb
 have g1 := h1.trans (Fr.give_alloc h1.dom (.cells m.cells.toArray 49) T)
 have g2 := h2.trans (Fr.give_alloc h2.dom (.cells m.cells.toArray 49) T)
 have g3 := Row.post1 h1.dom T m
 rw [hs] at g1 g2 g3
 refine ⟨g1,g3,g2,heap_alloc_lt ?_ _⟩
 rw [Go.Ng.heap_setCell_same hz 0 _]
 rfl
structure FreeS (tag : Nat → Tag) (w : World) (k R j : Nat) (no mk ms mp mv : Int) (it : ItemM) (xh : Int) (WV : Value) (M : Int) (b b1 b2 : Nat) (n : Nat) (tagr : Nat → Tag) (tv lv : Value) (wr : World) : Prop where
 hM : wr.heap[b]? = some (.cells #[.int .i64 mk,.int .i64 ms,.int .i64 no,.int .i64 mp,.int .i64 (j : Int),.int .i64 mv] 49 (0,0))
 hZ : wr.heap[b1]? = some (.cells #[.slice none 0 0,.slice none 0 0] 41 (0,0))
 hX : wr.heap[b2]? = some (.cells #[.int .i64 it.version,.int .i64 xh,WV,tv] 128 (0,0))
 tb : (tagr b).1 = 0 ∧ (tagr b1).1 = 0 ∧ (tagr b2).1 = 0
 thr : Row tagr (k,7,(j : Int)) 3 1 wr tv (addT mp it.through).length (ints (addT mp it.through))
 left : Row tagr (R,3,M) 173 2 wr lv (others mp (it.queue.take n)).length (askers (others mp (it.queue.take n)))
 fr : Fr (fun t => t = (k,7,(j : Int)) ∨ t = (R,3,M)) tag tagr w wr
section
variable {S : Tag → Prop} {tag tag' : Nat → Tag} {w w' : World} {k p R : Nat} {P P' : PlaceM}
theorem rfreed_ok {j : Nat} {it : ItemM} (m : Post) (h : RPRep tag k w p P) (hok : TagOk tag w) (hR : R ≠ 0) (hRk : R ≠ k) (hj : P.items[j]? = some (some it)) (hmj : m.item = j) (hd : m.dst = P.no) (hpr : 0 ≤ m.prop) (hI : ItOk it)
  (ho : P.out = []) (hc : P.came = []) :
  Calls Try.prog 86 #[.pointer (some ⟨p,0,none⟩),Post.val m] w (ROut R k p tag w (freedM P m j it)) := by
 obtain ⟨i49,hi49,hp0,hp1,hp2⟩ := info_parts Try.info49
 obtain ⟨i3,hi3,hy0,hy1,hy2⟩ := info_parts Try.info3
 obtain ⟨i173,hi173,hq0,hq1,hq2⟩ := info_parts Try.info173
 obtain ⟨mk,ms,md,mp,mi,mv⟩ := m
 simp only at hmj hd hpr
 subst hmj hd
 obtain ⟨av,iv,pv,h1,h2,⟨its,h3,h4,h5⟩,hprs⟩ := h.cells
 obtain ⟨IA,icap,rfl,q1,q2⟩ := h4.form
 unfold maxLen at q2
 have hjl := (List.getElem?_eq_some_iff.1 hj).1
 obtain ⟨⟨xv,xh,xw,xt⟩,hx⟩ : ∃ c,its[j]? = some c := ⟨_,List.getElem?_eq_getElem (by omega)⟩
 have hri : RItem tag k w j it _ := h5 j _ _ hj hx
 obtain ⟨ib,hib,hit,his,hce⟩ := Row.elem (enc := RIt.cells) h4 (fun _ => rfl) (by decide) hx
 subst hib
 have c2 : w.cell? ⟨p,2,none⟩ = some (.slice (some ⟨ib,0,none⟩) its.length icap) := cell_of h1 2
 have e0 : w.cell? ⟨ib,j * 4,none⟩ = some (.int .i64 xv) := hce 0 _ rfl
 have e1 : w.cell? ⟨ib,j * 4 + 1,none⟩ = some (.int .i64 xh) := hce 1 _ rfl
 have e2 : w.cell? ⟨ib,j * 4 + 2,none⟩ = some xw := hce 2 _ rfl
 have e3 : w.cell? ⟨ib,j * 4 + 3,none⟩ = some xt := hce 3 _ rfl
 obtain ⟨rv,rh,rw',rt⟩ := hri
 simp only at rv rh rw' rt
 subst rv
 obtain ⟨WA,wcap,rfl,s1,s2⟩ := rw'.slice
 obtain ⟨TA,tcap,rfl,t1,t2⟩ := rt.form
 unfold maxLen at s2 t2
 have i1 : (0 : Int) ≤ (j : Int) := by omega
 have i2 : (j : Int) < (its.length : Int) := by omega
 have hil : j < its.length := by omega
 have hpl := lt_of_heap h1
 have H := Lib.hid h
 have HPT := Lib.hid h.ptr
 have HJ := Lib.hid hj
 have HX := Lib.hid hx
 have H1 := Lib.hid h1
 have H4 := Lib.hid h4
 have H5 := Lib.hid h5
 have HRW := Lib.hid rw'
 have HRT := Lib.hid rt
 have HI := Lib.hid hI
 have HO := Lib.hid ho
 have HC := Lib.hid hc
 have HL := Lib.hid h3
 have HXH := Lib.hid rh
 have hql := hI.ql
 have htl := hI.tl
 have hv0 := hI.ver.1
 have hv1 := hI.ver.2
 have hk0 := h.k0
 have HIT := Lib.hid hit
 clear h h1 h2 h3 h4 h5 hprs hj hx hce rw' rt hI ho hc hit rh
 unfold Post.val
 go_enter Try.func86,Try.ntmps86
 go_wp2_with fail
 refine start_ (n:=10) (S:=fun w' => w'.cell? ⟨p,2,none⟩ = some (.slice (some ⟨ib,0,none⟩) its.length icap) ∧ w'.cell? ⟨w.heap.size,4,none⟩ = some (.int .i64 (j : Int)) ∧ w'.cell? ⟨ib,j * 4,none⟩ = some (.int .i64 it.version) ∧ w'.cell? ⟨ib,j * 4 + 1,none⟩ = some (.int .i64 xh) ∧ w'.cell? ⟨ib,j * 4 + 2,none⟩ = some (.slice WA it.queue.length wcap) ∧ w'.cell? ⟨ib,j * 4 + 3,none⟩ = some (.slice TA it.through.length tcap)) (ds := [9]) #[f_,f_,f_,f_,f_,f_,f_,f_,f_,f_] (by kernel_rfl) rfl rfl ⟨ca (ca c2 _) _,by go_simp,ca (ca e0 _) _,ca (ca e1 _) _,ca (ca e2 _) _,ca (ca e3 _) _⟩ (fun hHeld => ?_)
 refine pv_ (i:=0) (N:=some 10) (v:=?_) (a':=?_) rfl rfl (by kernel_rfl) (fun _ _ _ h => h) (Or.inl ⟨by rfl,?_⟩) ?_ ?_
 rotate_left;intro w';go_simp;with_reducible rfl;rotate_left;simp only [Act.put,sA_,sB_,sC_,i64_w,i32_w];rfl
 refine pv_ (i:=1) (N:=some 11) (v:=?_) (a':=?_) rfl rfl (by kernel_rfl) (fun _ _ _ h => h) (Or.inl ⟨by rfl,?_⟩) ?_ ?_
 rotate_left;intro w';go_simp;with_reducible rfl;rotate_left;simp only [Act.put,sA_,sB_,sC_,i64_w,i32_w];rfl
 refine pv_ (i:=2) (N:=some 12) (v:=?_) (a':=?_) rfl rfl (by kernel_rfl) (fun _ _ _ h => h) (Or.inl ⟨by rfl,?_⟩) ?_ ?_
 rotate_left;intro w';go_simp;with_reducible rfl;rotate_left;simp only [Act.put,sA_,sB_,sC_,i64_w,i32_w];rfl
 refine pv_ (i:=4) (N:=some 14) (v:=?_) (a':=?_) rfl rfl (by kernel_rfl) (fun _ _ _ h => h) (Or.inl ⟨by rfl,?_⟩) ?_ ?_
 rotate_left;intro w';go_simp;with_reducible rfl;rotate_left;simp only [Act.put,sA_,sB_,sC_,i64_w,i32_w];rfl
 refine tv_ (i:=3) (N:=some 13) (v:=?_) (a':=?_) rfl rfl (by kernel_rfl) (fun _ _ _ h => h) (Or.inl ⟨by rfl,?_⟩) hHeld ?_ ?_
 rotate_left;rintro w' ⟨s0,s1,s2,s3,s4,s5⟩;go_simp;with_reducible rfl;rotate_left;simp only [Act.put,sA_,sB_,sC_,i64_w,i32_w];rfl
 refine tv_ (i:=5) (N:=some 15) (v:=?_) (a':=?_) rfl rfl (by kernel_rfl) (fun _ _ _ h => h) (Or.inl ⟨by rfl,?_⟩) hHeld ?_ ?_
 rotate_left;rintro w' ⟨s0,s1,s2,s3,s4,s5⟩;go_simp;with_reducible rfl;rotate_left;simp only [Act.put,sA_,sB_,sC_,i64_w,i32_w];rfl
 refine pv_ (i:=6) (N:=some 16) (v:=?_) (a':=?_) rfl rfl (by kernel_rfl) (fun _ _ _ h => h) (Or.inl ⟨by rfl,?_⟩) ?_ ?_
 rotate_left;intro w';go_simp;with_reducible rfl;rotate_left;simp only [Act.put,sA_,sB_,sC_,i64_w,i32_w];rfl
 refine tv_ (i:=7) (N:=some 17) (v:=?_) (a':=?_) rfl rfl (by kernel_rfl) (fun _ _ _ h => h) (Or.inl ⟨by rfl,?_⟩) hHeld ?_ ?_
 rotate_left;rintro w' ⟨s0,s1,s2,s3,s4,s5⟩;go_simp;with_reducible rfl;rotate_left;simp only [Act.put,sA_,sB_,sC_,i64_w,i32_w];rfl
 refine one_ (i:=8) (N:=some 5) #[t_,t_,t_,t_,t_,t_,t_,t_,t_,f_] rfl rfl (by kernel_rfl) (by decide) (fun K hK => ?_)
 refine value_ (w1:=?_) (v:=?_) (by rfl) rfl ?_ ?_
 rotate_left 2
 ·go_simp
  constructor
  ·rfl
  ·rfl
 refine hK.out _ _ ⟨(ca hHeld.1 _),(ca hHeld.2.1 _),(ca hHeld.2.2.1 _),(ca hHeld.2.2.2.1 _),(ca hHeld.2.2.2.2.1 _),(ca hHeld.2.2.2.2.2 _)⟩ (fun hHeld => ?_)
 clear hK K
 refine norm_ (a':=?_) ?_ ?_
 rotate_left
 ·show Act.put _ (some 5) _ = _
  simp only [Act.put,sA_,sB_,sC_,i64_w,i32_w]
  rfl
 refine last_ (i:=9) (N:=none) #[t_,t_,t_,t_,t_,t_,t_,t_,t_,t_] rfl rfl (by kernel_rfl) (by decide) (fun K hK => ?_)
 refine skip_ (w1:=?_) (by rfl) rfl ?_ ?_
 rotate_left
 ·go_simp
  rfl
 refine hK.out _ _ ?_
 clear hK K
 refine done_ (by kernel_rfl) ?_
 clear hHeld
 obtain ⟨w1,hw1⟩ : ∃ w1,w1 = (((w.alloc (.cells #[.int .i64 mk,.int .i64 ms,.int .i64 P.no,.int .i64 mp,.int .i64 (j : Int),.int .i64 mv] 49)).alloc (.cells #[.slice none 0 0,.slice none 0 0] 41)).alloc (.cells #[.int .i64 it.version,.int .i64 xh,.slice WA it.queue.length wcap,.slice TA it.through.length tcap] 128)).drew := ⟨_,rfl⟩
 rw [← hw1]
 obtain ⟨hM1,hZ1,hX1⟩ := heap3 w (.cells #[.int .i64 mk,.int .i64 ms,.int .i64 P.no,.int .i64 mp,.int .i64 (j : Int),.int .i64 mv] 49) (.cells #[.slice none 0 0,.slice none 0 0] 41) (.cells #[.int .i64 it.version,.int .i64 xh,.slice WA it.queue.length wcap,.slice TA it.through.length tcap] 128)
 have hF1 : Fr (fun _ => False) tag tag w w1 := by rw [hw1]; exact ((((Fr.refl hok).al _).al _).al _).dr
 obtain ⟨b,hb⟩ : ∃ b,b = w.heap.size := ⟨_,rfl⟩
 obtain ⟨b1,hb1⟩ : ∃ b1,b1 = w.heap.size + 1 := ⟨_,rfl⟩
 obtain ⟨b2,hb2⟩ : ∃ b2,b2 = w.heap.size + 1 + 1 := ⟨_,rfl⟩
 rw [← hb2,← hb1,← hb]
 have hwb : w.heap.size ≤ b := by omega
 have hbb : b < b1 := by omega
 have hbc : b1 < b2 := by omega
 have HTB : Hid ((tag b).1 = 0 ∧ (tag b1).1 = 0 ∧ (tag b2).1 = 0) := Lib.hid ⟨tag_new hok (by omega),tag_new hok (by omega),tag_new hok (by omega)⟩
 have HM1 : Hid (w1.heap[b]? = some (.cells #[.int .i64 mk,.int .i64 ms,.int .i64 P.no,.int .i64 mp,.int .i64 (j : Int),.int .i64 mv] 49 (0,0))) := Lib.hid (by rw [hw1,hb]; exact hM1)
 have HZ1 : Hid (w1.heap[b1]? = some (.cells #[.slice none 0 0,.slice none 0 0] 41 (0,0))) := Lib.hid (by rw [hw1,hb1]; exact hZ1)
 have HX1 : Hid (w1.heap[b2]? = some (.cells #[.int .i64 it.version,.int .i64 xh,.slice WA it.queue.length wcap,.slice TA it.through.length tcap] 128 (0,0))) := Lib.hid (by rw [hw1,hb2]; exact hX1)
 have HF1 := Lib.hid hF1
 have hok1 := hF1.dom
 have HC2 := Lib.hid c2
 have HE0 := Lib.hid e0
 have HE1 := Lib.hid e1
 have HE2 := Lib.hid e2
 have HE3 := Lib.hid e3
 clear hw1 hM1 hZ1 hX1 hF1 hb hb1 hb2 c2 e0 e1 e2 e3
 have hhp : (xh == mp) = (it.held && it.lk.prop == mp) := by
  rw [HXH.out]
  cases it.held
  ·have : (-1 : Int) ≠ mp := by omega
   simpa using this
  ·simp
 have HHP := Lib.hid hhp
 clear hhp
 obtain ⟨M,hM⟩ := tag_max tag w.heap.size
 have HNO : Hid (∀ b,b < w.heap.size → tag b ≠ (R,3,M)) := Lib.hid (fun b hb e => by have := hM b hb; rw [e] at this; simp at this)
 clear hM
 have m3 : w1.cell? ⟨b,3,none⟩ = some (.int .i64 mp) := cell_of HM1.out 3
 have x3 : w1.cell? ⟨b2,3,none⟩ = some (.slice TA it.through.length tcap) := cell_of HX1.out 3
 have xz3 : w1.frozen? ⟨b2,3,none⟩ = false := free_of HX1.out 3
 have hl1 := lt_of_heap HX1.out
 obtain ⟨th,hth⟩ : ∃ th,decide (mp ∈ it.through) = th := ⟨_,rfl⟩
 have HTH := Lib.hid hth
 clear hth
 go_upto_if 23 with (go_at_call 115; refine (rin_val it.through mp _ _ HTH.out ((HRT.out.fr HF1.out (fun x => x)).rd (ints_one _)) (by omega)).mono ?_; rintro e w5 ⟨rfl,h5⟩; have h5 := h5.symm; subst h5)
 go_cut [] (fun wx => ∃ (tagc : Nat → Tag) (tv : Value),Hid (FreeS tag w k R j P.no mk ms mp mv it xh (.slice WA it.queue.length wcap) M b b1 b2 0 tagc tv (.slice none 0 0) wx))
 case first =>
  cases th
  ·have hth2 : addT mp it.through = it.through ++ [mp] := by rw [addT,if_neg (of_decide_eq_false HTH.out)]
   have HT2 := Lib.hid hth2
   clear hth2
   go_wp2_with ((at_builtin; refine append_list rfl (.tmp 25) (.tmp 28) 22 rfl (by rfl) (by rfl) (HRT.out.fr (HF1.out.al _) (fun x => x)) (hok1.alloc _) Try.underlying22 hi3 hy0 hy1 hy2 rfl (by decide) [.int .i64 mp] rfl (news_at (heap_alloc_at _ _)) (by simp [Value.oneCell']) (by decide) (by unfold maxLen; omega) (by omega) ?_; intro g5 cap5 w2 tag2 hrow hfr; have HX2 := Lib.hid (hfr.heap (heap_alloc_lt HX1.out _) (t0_ne HTB.out.2.2 hk0)); have HM2 := Lib.hid (hfr.heap (heap_alloc_lt HM1.out _) (t0_ne HTB.out.1 hk0)); have HZ2 := Lib.hid (hfr.heap (heap_alloc_lt HZ1.out _) (t0_ne HTB.out.2.1 hk0)); have HTB2 : Hid ((tag2 b).1 = 0 ∧ (tag2 b1).1 = 0 ∧ (tag2 b2).1 = 0) := Lib.hid ⟨by rw [hfr.same b (lt_of_heap (heap_alloc_lt HM1.out _))]; exact HTB.out.1,by rw [hfr.same b1 (lt_of_heap (heap_alloc_lt HZ1.out _))]; exact HTB.out.2.1,by rw [hfr.same b2 (lt_of_heap (heap_alloc_lt HX1.out _))]; exact HTB.out.2.2⟩; have v3 : w2.cell? ⟨b2,3,none⟩ = some (.slice TA it.through.length tcap) := cell_of HX2.out 3; have vz3 : w2.frozen? ⟨b2,3,none⟩ = false := free_of HX2.out 3; have HF2 := Lib.hid ((HF1.out.up.al _).trans hfr); have HROW2 := Lib.hid hrow; have hok2 := hfr.dom; clear hrow hfr))
   go_meet
   case rel =>
    have hz : ∀ x y,x ≠ b2 → w2.heap[x]? = some y → (w2.setCell ⟨b2,3,none⟩ (.slice (some ⟨g5,0,none⟩) (it.through.length + 1) cap5)).heap[x]? = some y := fun x y hx hy => (Go.Ng.heap_setCell_ne hx _ _).trans hy
    have hL : Fr (fun t => t.1 = 0) tag2 tag2 w2 (w2.setCell ⟨b2,3,none⟩ (.slice (some ⟨g5,0,none⟩) (it.through.length + 1) cap5)) := Fr.setCell hok2 (a := ⟨b2,3,none⟩) HTB2.out.2.2 _
    refine ⟨tag2,.slice (some ⟨g5,0,none⟩) (it.through.length + 1) cap5,Lib.hid {
     hM := hz _ _ (by omega) HM2.out
     hZ := hz _ _ (by omega) HZ2.out
     hX := by rw [Go.Ng.heap_setCell_same HX2.out 3 _]; rfl
     tb := HTB2.out
     thr := by rw [HT2.out]; have := HROW2.out.fr hL hk0; simpa [ints] using this
     left := Row.nil _ _ _ _ _
     fr := (HF2.out.mono (fun _ h => .inl h)).scn (by omega) _ _ }⟩
  ·have hth2 : addT mp it.through = it.through := by rw [addT,if_pos (of_decide_eq_true HTH.out)]
   have HT2 := Lib.hid hth2
   clear hth2
   go_wp2_with fail
   go_meet
   case rel =>
    refine ⟨tag,.slice TA it.through.length tcap,Lib.hid {
     hM := HM1.out
     hZ := HZ1.out
     hX := HX1.out
     tb := HTB.out
     thr := by rw [HT2.out]; exact HRT.out.fr HF1.out (fun x => x)
     left := Row.nil _ _ _ _ _
     fr := HF1.out.up }⟩
 case rest =>
 obtain ⟨tagc,tv,HC0⟩ := hcut
 obtain ⟨VA,vcap,rfl,v1,v2⟩ := HC0.out.thr.form
 unfold maxLen at v2
 clear m3 x3 xz3 hl1
 go_wp2_with fail
 go_loopw [7,6] (fun iv lv wr => ∃ (n : Nat),n ≤ it.queue.length ∧ iv = .int .i64 n ∧ ∃ (tagr : Nat → Tag),Hid (FreeS tag w k R j P.no mk ms mp mv it xh (.slice WA it.queue.length wcap) M b b1 b2 n tagr (.slice VA (addT mp it.through).length vcap) lv wr)) (fun iv _ _ => it.queue.length - (intOf iv).toNat)
 case atStart => exact ⟨0,Nat.zero_le _,rfl,tagc,HC0⟩
 case round =>
  obtain ⟨n,hn,rfl,tagr,HS⟩ := hrel
  have x2 : wr.cell? ⟨b2,2,none⟩ = some (.slice WA it.queue.length wcap) := cell_of HS.out.hX 2
  have m3 : wr.cell? ⟨b,3,none⟩ = some (.int .i64 mp) := cell_of HS.out.hM 3
  have hlr := lt_of_heap HS.out.hX
  have hokr := HS.out.fr.dom
  by_cases hlt : n < it.queue.length
  ·obtain ⟨⟨ap,al⟩,hx⟩ : ∃ c,it.queue[n]? = some c := ⟨_,List.getElem?_eq_getElem hlt⟩
   obtain ⟨ab,aoff,acap,hv,_,_,hac⟩ := Rd.elem (enc := Asker.cells) (HRW.out.fr HS.out.fr (by simp [Ne.symm hRk])).rd (fun _ => rfl) (by decide) hx
   injection hv with hv _ hv2
   subst hv hv2
   have a0 : wr.cell? ⟨ab,aoff + n * 2,none⟩ = some (.int .i64 ap) := hac 0 _ rfl
   have a1 : wr.cell? ⟨ab,aoff + n * 2 + 1,none⟩ = some (.int .i64 al) := hac 1 _ rfl
   have i5 : (0 : Int) ≤ (n : Int) := by omega
   have i6 : (n : Int) < (it.queue.length : Int) := by omega
   have HQX := Lib.hid (others_next (p := mp) hx)
   obtain ⟨LA,lcap,rfl,l1,l2⟩ := HS.out.left.form
   have hll : (others mp (it.queue.take n)).length ≤ n := Nat.le_trans (List.length_filter_le _ _) (by rw [List.length_take]; omega)
   clear hx hac
   cases hap : (ap == mp)
   ·have hap' : (ap != mp) = true := by simp only [bne,hap]; rfl
    have HAP := Lib.hid hap
    clear hap
    go_wp2_with fail
    go_quiet (fail)
    go_wp2_with (
     at_builtin
     refine append_list rfl (.tmp 47) (.tmp 53) 126 rfl (by rfl) (by rfl) (HS.out.left.fr ((Fr.drewN (S:=fun _ => False) hokr nq).al _) (fun x => x)) ((TagOk.drewN hokr nq).alloc _) Try.underlying126 hi173 hq0 hq1 hq2 rfl (by decide) [.int .i64 ap,.int .i64 al] rfl (news_at (heap_alloc_at _ _)) (by simp [Value.oneCell']) (by decide) (by unfold maxLen; omega) (by omega) ?_
     intro g6 cap6 w5 tag5 hrow hfr
     have HFR5 := Lib.hid hfr
     have HROW5 := Lib.hid hrow
     clear hrow hfr)
    go_roundw
    case rel =>
     have hl5 : ∀ x y,wr.heap[x]? = some y → x < ((wr.drewN nq).alloc (.cells #[.int .i64 ap,.int .i64 al] 173)).heap.size := fun x y hx => lt_of_heap (heap_alloc_lt (show (wr.drewN nq).heap[x]? = some y from hx) _)
     have hz5 : ∀ x y,(tagr x).1 = 0 → wr.heap[x]? = some y → w5.heap[x]? = some y := fun x y ht hy => HFR5.out.heap (heap_alloc_lt (show (wr.drewN nq).heap[x]? = some y from hy) _) (t0_ne ht hR)
     refine ⟨n + 1,by omega,by go_num,tag5,Lib.hid {
      hM := hz5 _ _ HS.out.tb.1 HS.out.hM
      hZ := hz5 _ _ HS.out.tb.2.1 HS.out.hZ
      hX := hz5 _ _ HS.out.tb.2.2 HS.out.hX
      tb := ⟨by rw [HFR5.out.same b (hl5 _ _ HS.out.hM)]; exact HS.out.tb.1,by rw [HFR5.out.same b1 (hl5 _ _ HS.out.hZ)]; exact HS.out.tb.2.1,by rw [HFR5.out.same b2 (hl5 _ _ HS.out.hX)]; exact HS.out.tb.2.2⟩
      thr := (HS.out.thr.fr ((Fr.drewN (S:=fun _ => False) hokr nq).al _) (fun x => x)).fr HFR5.out (by intro e; injection e with e _; exact hRk e.symm)
      left := ?_
      fr := (HS.out.fr.dN nq).al _ |>.trans (HFR5.out.mono (fun _ h => .inr h)) }⟩
     rw [HQX.out,show isProp mp ⟨ap,al⟩ = false from HAP.out]
     have e2 : askers (others mp (it.queue.take n) ++ (if false = true then [] else [⟨ap,al⟩])) = askers (others mp (it.queue.take n)) ++ [.int .i64 ap,.int .i64 al] := by simp [askers,Asker.cells]
     rw [e2]
     have e3 : (others mp (it.queue.take n) ++ (if false = true then [] else [(⟨ap,al⟩ : Asker)])).length = (others mp (it.queue.take n)).length + 1 := by simp
     rw [e3]
     exact HROW5.out
    case measure => simp [intOf]; omega
   ·have hap' : (ap != mp) = false := by simp only [bne,hap]; rfl
    have HAP := Lib.hid hap
    clear hap
    go_wp2_with fail
    go_quiet (fail)
    go_wp2_with fail
    go_roundw
    case rel =>
     refine ⟨n + 1,by omega,by go_num,tagr,Lib.hid {
      hM := HS.out.hM
      hZ := HS.out.hZ
      hX := HS.out.hX
      tb := HS.out.tb
      thr := HS.out.thr.fr (Fr.drewN (S:=fun _ => False) hokr nq) (fun x => x)
      left := ?_
      fr := HS.out.fr.dN nq }⟩
     rw [HQX.out,show isProp mp ⟨ap,al⟩ = true from HAP.out]
     have e2 : others mp (it.queue.take n) ++ (if true = true then [] else [(⟨ap,al⟩ : Asker)]) = others mp (it.queue.take n) := by simp
     rw [e2]
     exact HS.out.left.fr (Fr.drewN (S:=fun _ => False) hokr nq) (fun x => x)
    case measure => simp [intOf]; omega
  ·have : n = it.queue.length := by omega
   subst this
   have xz2 := free_of HS.out.hX 2
   obtain ⟨LA,lcap,rfl,l1,l2⟩ := HS.out.left.form
   unfold maxLen at l2
   go_upto_region 12 with fail
   have hleft := HS.out.left
   rw [List.take_length] at hleft l1
   simp only [List.take_length]
   have hqn := others_nodup mp HI.out.qnd
   have hL0 : (others mp it.queue).length ≤ it.queue.length := List.length_filter_le _ _
   obtain ⟨L,hL⟩ : ∃ L,L = others mp it.queue := ⟨_,rfl⟩
   rw [← hL] at hleft l1 hqn hL0
   simp only [← hL]
   have HLE := Lib.hid hL
   have HQN := Lib.hid hqn
   obtain ⟨w5,hw5⟩ : ∃ x,x = (wr.setCell ⟨b2,2,none⟩ (.slice LA L.length lcap)).alloc (.cells #[.slice none 0 0,.slice none 0 0] 41) := ⟨_,rfl⟩
   rw [← hw5]
   obtain ⟨b4,hb4⟩ : ∃ x,x = wr.heap.size := ⟨_,rfl⟩
   rw [← hb4]
   have hTR : ((R,3,M) : Tag).1 ≠ 0 := hR
   obtain ⟨tagf,htagf⟩ : ∃ x,x = retag tagr (R,3,M) (k,6,(j : Int)) := ⟨_,rfl⟩
   have hF5 : Fr (fun t => t = (k,7,(j : Int))) tag tagf w wr := by rw [htagf]; exact (HS.out.fr.drop HNO.out).retag hTR HNO.out
   have hL5 : Fr (fun t => t.1 = 0) tagf tagf wr w5 := by
    rw [hw5]
    exact ((Fr.refl hF5.dom).sc b2 _ _ (by rw [htagf]; exact retag_zero HS.out.tb.2.2 hTR)).al _
   have HF5 : Hid (Fr (fun t => t = (k,7,(j : Int))) tag tagf w w5) := Lib.hid (by rw [hw5]; exact (hF5.scn (by omega) _ _).al _)
   have HTB5 : Hid ((tagf b).1 = 0 ∧ (tagf b1).1 = 0 ∧ (tagf b2).1 = 0 ∧ (tagf b4).1 = 0) := Lib.hid (by rw [htagf,hb4]; exact ⟨retag_zero HS.out.tb.1 hTR,retag_zero HS.out.tb.2.1 hTR,retag_zero HS.out.tb.2.2 hTR,retag_zero hokr.new hTR⟩)
   have HTB5' : Hid ((tagf b).1 = 0 ∧ (tagf b1).1 = 0 ∧ (tagf b2).1 = 0) := Lib.hid ⟨HTB5.out.1,HTB5.out.2.1,HTB5.out.2.2.1⟩
   have HX5 : Hid (w5.heap[b2]? = some (.cells #[.int .i64 it.version,.int .i64 xh,.slice LA L.length lcap,.slice VA (addT mp it.through).length vcap] 128 (0,0))) := Lib.hid (by rw [hw5]; exact heap_alloc_lt (by rw [Go.Ng.heap_setCell_same HS.out.hX 2 _]; rfl) _)
   have HM5 := Lib.hid (heap_alloc_lt ((Go.Ng.heap_setCell_ne (show b ≠ b2 by omega) 2 (.slice LA L.length lcap)).trans HS.out.hM) (.cells #[.slice none 0 0,.slice none 0 0] 41))
   have HZ5 := Lib.hid (heap_alloc_lt ((Go.Ng.heap_setCell_ne (show b1 ≠ b2 by omega) 2 (.slice LA L.length lcap)).trans HS.out.hZ) (.cells #[.slice none 0 0,.slice none 0 0] 41))
   rw [← hw5] at HM5 HZ5
   have HO5 : Hid (w5.heap[b4]? = some (.cells #[.slice none 0 0,.slice none 0 0] 41 (0,0))) := Lib.hid (by rw [hw5,hb4]; have := heap_alloc_at (wr.setCell ⟨b2,2,none⟩ (.slice LA L.length lcap)) (.cells #[.slice none 0 0,.slice none 0 0] 41); rwa [World.size_setCell] at this)
   have HLQ5 : Hid (ORow tagf (k,6,(j : Int)) 2 w5 (.slice LA L.length lcap) L.length (askers L)) := Lib.hid (Row.orow (by have := (hleft.retag (k,6,(j : Int))); rw [← htagf] at this; exact this.fr hL5 hk0) (askers_one L))
   have HTHR5 : Hid (Row tagf (k,7,(j : Int)) 3 1 w5 (.slice VA (addT mp it.through).length vcap) (addT mp it.through).length (ints (addT mp it.through))) := Lib.hid (by have := (HS.out.thr.retag_ne (k,6,(j : Int)) (T := (R,3,M)) (by intro e; injection e with e _; exact hRk e.symm)); rw [← htagf] at this; exact this.fr hL5 hk0)
   have hok5 := HF5.out.dom
   have hbl : b2 < b4 := by rw [hb4]; exact hlr
   have HWL : Hid (w.heap.size ≤ b4) := Lib.hid (by omega)
   clear hw5 hb4 htagf hF5 hL5 hleft hqn hL x2 m3 xz2 hlr
   have x1 : w5.cell? ⟨b2,1,none⟩ = some (.int .i64 xh) := cell_of HX5.out 1
   have xz1 := free_of HX5.out 1
   have x2 : w5.cell? ⟨b2,2,none⟩ = some (.slice LA L.length lcap) := cell_of HX5.out 2
   have m3 : w5.cell? ⟨b,3,none⟩ = some (.int .i64 mp) := cell_of HM5.out 3
   cases hho : (xh == mp)
   ·have hh2 := hho
    rw [HHP.out] at hh2
    have hm : freedM P ⟨mk,ms,P.no,mp,(j : Int),mv⟩ j it = P.setItem j (freedItem it mp) := by
     rw [freedM,if_neg (by simpa using hh2)]
    have HMM := Lib.hid hm
    clear hm hh2
    go_upto_region 19 with fail
    clear x1 xz1 x2 m3 hho
    have hib : tagf ib = (k,3,0) := (HF5.out.same ib his).trans HIT.out
    have hrow : Row tagf (k,3,0) 128 4 w5 (.slice (some ⟨ib,0,none⟩) its.length icap) its.length (its.flatMap RIt.cells) := H4.out.fr HF5.out (by simp [hRk,Ne.symm hRk])
    have d2 : w5.cell? ⟨p,2,none⟩ = some (.slice (some ⟨ib,0,none⟩) its.length icap) := HF5.out.cell HC2.out (by (try rw [HPT.out]); simp [hRk,Ne.symm hRk])
    have m4 : w5.cell? ⟨b,4,none⟩ = some (.int .i64 (j : Int)) := cell_of HM5.out 4
    have mz4 : w5.frozen? ⟨b,4,none⟩ = false := free_of HM5.out 4
    have x0 : w5.cell? ⟨b2,0,none⟩ = some (.int .i64 it.version) := cell_of HX5.out 0
    have xz0 : w5.frozen? ⟨b2,0,none⟩ = false := free_of HX5.out 0
    have x1 : w5.cell? ⟨b2,1,none⟩ = some (.int .i64 xh) := cell_of HX5.out 1
    have xz1 : w5.frozen? ⟨b2,1,none⟩ = false := free_of HX5.out 1
    have x2 : w5.cell? ⟨b2,2,none⟩ = some (.slice LA L.length lcap) := cell_of HX5.out 2
    have xz2 : w5.frozen? ⟨b2,2,none⟩ = false := free_of HX5.out 2
    have x3 : w5.cell? ⟨b2,3,none⟩ = some (.slice VA (addT mp it.through).length vcap) := cell_of HX5.out 3
    have xz3 : w5.frozen? ⟨b2,3,none⟩ = false := free_of HX5.out 3
    have y0 : w5.cell? ⟨ib,j * 4,none⟩ = some (.int .i64 it.version) := HF5.out.cell HE0.out (by (try rw [HIT.out]); simp [hRk,Ne.symm hRk])
    have y1 : w5.cell? ⟨ib,j * 4 + 1,none⟩ = some (.int .i64 xh) := HF5.out.cell HE1.out (by (try rw [HIT.out]); simp [hRk,Ne.symm hRk])
    have y2 : w5.cell? ⟨ib,j * 4 + 2,none⟩ = some (.slice WA it.queue.length wcap) := HF5.out.cell HE2.out (by (try rw [HIT.out]); simp [hRk,Ne.symm hRk])
    have y3 : w5.cell? ⟨ib,j * 4 + 3,none⟩ = some (.slice TA it.through.length tcap) := HF5.out.cell HE3.out (by (try rw [HIT.out]); simp [hRk,Ne.symm hRk])
    have hz : ∀ o,w5.frozen? ⟨ib,o,none⟩ = false := fun o => Row.free' hrow (by rw [rits_len]; omega)
    have z0 := hz (j * 4)
    have z1 := hz (j * 4 + 1)
    have z2 := hz (j * 4 + 2)
    have z3 := hz (j * 4 + 3)
    have HROW := Lib.hid hrow
    clear hz hrow
    refine start_ (n:=9) (S:=fun w' => w'.cell? ⟨p,2,none⟩ = some (.slice (some ⟨ib,0,none⟩) its.length icap) ∧ w'.cell? ⟨b,4,none⟩ = some (.int .i64 (j : Int)) ∧ w'.cell? ⟨b2,0,none⟩ = some (.int .i64 it.version) ∧ w'.cell? ⟨b2,1,none⟩ = some (.int .i64 xh) ∧ w'.cell? ⟨b2,2,none⟩ = some (.slice LA L.length lcap) ∧ w'.cell? ⟨b2,3,none⟩ = some (.slice VA (addT mp it.through).length vcap)) (ds := [8]) #[f_,f_,f_,f_,f_,f_,f_,f_,f_] (by kernel_rfl) rfl rfl ⟨d2,m4,x0,x1,x2,x3⟩ (fun hHeld => ?_)
    refine pv_ (i:=0) (N:=some 86) (v:=?_) (a':=?_) rfl rfl (by kernel_rfl) (fun _ _ _ h => h) (Or.inl ⟨by rfl,?_⟩) ?_ ?_
    rotate_left;intro w';go_simp;with_reducible rfl;rotate_left;simp only [Act.put,sA_,sB_,sC_,i64_w,i32_w];rfl
    refine pv_ (i:=1) (N:=some 87) (v:=?_) (a':=?_) rfl rfl (by kernel_rfl) (fun _ _ _ h => h) (Or.inl ⟨by rfl,?_⟩) ?_ ?_
    rotate_left;intro w';go_simp;with_reducible rfl;rotate_left;simp only [Act.put,sA_,sB_,sC_,i64_w,i32_w];rfl
    refine pv_ (i:=2) (N:=some 88) (v:=?_) (a':=?_) rfl rfl (by kernel_rfl) (fun _ _ _ h => h) (Or.inl ⟨by rfl,?_⟩) ?_ ?_
    rotate_left;intro w';go_simp;with_reducible rfl;rotate_left;simp only [Act.put,sA_,sB_,sC_,i64_w,i32_w];rfl
    refine pv_ (i:=4) (N:=some 90) (v:=?_) (a':=?_) rfl rfl (by kernel_rfl) (fun _ _ _ h => h) (Or.inl ⟨by rfl,?_⟩) ?_ ?_
    rotate_left;intro w';go_simp;with_reducible rfl;rotate_left;simp only [Act.put,sA_,sB_,sC_,i64_w,i32_w];rfl
    refine tv_ (i:=3) (N:=some 89) (v:=?_) (a':=?_) rfl rfl (by kernel_rfl) (fun _ _ _ h => h) (Or.inl ⟨by rfl,?_⟩) hHeld ?_ ?_
    rotate_left;rintro w' ⟨s0,s1,s2,s3,s4,s5⟩;go_simp;with_reducible rfl;rotate_left;simp only [Act.put,sA_,sB_,sC_,i64_w,i32_w];rfl
    refine tv_ (i:=5) (N:=some 91) (v:=?_) (a':=?_) rfl rfl (by kernel_rfl) (fun _ _ _ h => h) (Or.inl ⟨by rfl,?_⟩) hHeld ?_ ?_
    rotate_left;rintro w' ⟨s0,s1,s2,s3,s4,s5⟩;go_simp;with_reducible rfl;rotate_left;simp only [Act.put,sA_,sB_,sC_,i64_w,i32_w];rfl
    refine tv_ (i:=6) (N:=some 92) (v:=?_) (a':=?_) rfl rfl (by kernel_rfl) (fun _ _ _ h => h) (Or.inl ⟨by rfl,?_⟩) hHeld ?_ ?_
    rotate_left;rintro w' ⟨s0,s1,s2,s3,s4,s5⟩;go_simp;with_reducible rfl;rotate_left;simp only [Act.put,sA_,sB_,sC_,i64_w,i32_w];rfl
    refine pv_ (i:=7) (N:=some 93) (v:=?_) (a':=?_) rfl rfl (by kernel_rfl) (fun _ _ _ h => h) (Or.inl ⟨by rfl,?_⟩) ?_ ?_
    rotate_left;intro w';go_simp;with_reducible rfl;rotate_left;simp only [Act.put,sA_,sB_,sC_,i64_w,i32_w];rfl
    refine last_ (i:=8) (N:=none) #[t_,t_,t_,t_,t_,t_,t_,t_,t_] rfl rfl (by kernel_rfl) (by decide) (fun K hK => ?_)
    refine skip_ (w1:=?_) (by rfl) rfl ?_ ?_
    rotate_left
    ·go_simp
     rfl
    refine hK.out _ _ ?_
    clear hK K
    refine done_ (by kernel_rfl) ?_
    clear hHeld
    obtain ⟨w8,hW⟩ : ∃ x,x = ((((w5.setCell ⟨ib,j * 4,none⟩ (.int .i64 it.version)).setCell ⟨ib,j * 4 + 1,none⟩ (.int .i64 xh)).setCell ⟨ib,j * 4 + 2,none⟩ (.slice LA L.length lcap)).setCell ⟨ib,j * 4 + 3,none⟩ (.slice VA (addT mp it.through).length vcap)).drew := ⟨_,rfl⟩
    rw [← hW]
    have hF : Fr (fun t => t = (k,7,(j : Int)) ∨ t = (k,3,0)) tag tagf w w8 := by
     rw [hW]
     exact (((((HF5.out.mono (fun _ h => .inl h)).sc ib _ _ (.inr hib)).sc ib _ _ (.inr hib)).sc ib _ _ (.inr hib)).sc ib _ _ (.inr hib)).dr
    have hG : Fr (fun t => t = (k,3,0)) tagf tagf w5 w8 := by
     rw [hW]
     exact (((((Fr.refl HF5.out.dom).sc ib _ _ hib).sc ib _ _ hib).sc ib _ _ hib).sc ib _ _ hib).dr
    have hrow2 : Row tagf (k,3,0) 128 4 w8 (.slice (some ⟨ib,0,none⟩) its.length icap) its.length ((its.set j ⟨it.version,xh,.slice LA L.length lcap,.slice VA (addT mp it.through).length vcap⟩).flatMap RIt.cells) := by
     rw [hW,← rits_set its j ⟨it.version,xh,.slice LA L.length lcap,.slice VA (addT mp it.through).length vcap⟩ hil]
     have hl := rits_len its
     exact ((((HROW.out.put_cell (j:=j * 4) (by omega) _).put_cell (j:=j * 4 + 1) (by simp only [List.length_set]; omega) _).put_cell (j:=j * 4 + 2) (by simp only [List.length_set]; omega) _).put_cell (j:=j * 4 + 3) (by simp only [List.length_set]; omega) _).drew
    have HFA8 := Lib.hid hF
    have HGA8 := Lib.hid hG
    have HROWA8 := Lib.hid hrow2
    have HMA8 := Lib.hid (hG.heap HM5.out (t0_ne HTB5'.out.1 hk0))
    have HZA8 := Lib.hid (hG.heap HZ5.out (t0_ne HTB5'.out.2.1 hk0))
    have hokA8 := hF.dom
    clear hW hF hG hrow2 hib d2 m4 mz4 x0 xz0 x1 xz1 x2 xz2 x3 xz3 y0 y1 y2 y3 z0 z1 z2 z3
    have HOE := Lib.hid (HGA8.out.heap HO5.out (t0_ne HTB5.out.2.2.2 hk0))
    have u0 : w8.cell? ⟨b4,0,none⟩ = some (.slice none 0 0) := cell_of HOE.out 0
    have u1 : w8.cell? ⟨b4,1,none⟩ = some (.slice none 0 0) := cell_of HOE.out 1
    have r0 : w8.cell? ⟨b1,0,none⟩ = some (.slice none 0 0) := cell_of HZA8.out 0
    have r1 : w8.cell? ⟨b1,1,none⟩ = some (.slice none 0 0) := cell_of HZA8.out 1
    have rz0 := free_of HZA8.out 0
    have rz1 := free_of HZA8.out 1
    go_wp2_with fail
    obtain ⟨wz,hwz⟩ : ∃ yy,yy = (w8.setCell ⟨b1,0,none⟩ (.slice none 0 0)).setCell ⟨b1,1,none⟩ (.slice none 0 0) := ⟨_,rfl⟩
    rw [← hwz]
    have hzz : wz.heap[b1]? = some (.cells #[.slice none 0 0,.slice none 0 0] 41 (0,0)) := by
     rw [hwz,Go.Ng.heap_setCell_same (Go.Ng.heap_setCell_same HZA8.out 0 _) 1 _]
     rfl
    have rr0 : wz.cell? ⟨b1,0,none⟩ = some (.slice none 0 0) := cell_of hzz 0
    have rr1 : wz.cell? ⟨b1,1,none⟩ = some (.slice none 0 0) := cell_of hzz 1
    refine bodyPost_ret (v:=.agg #[.slice none 0 0,.slice none 0 0]) (by simp [results,Try.results86,go_sem,rr0,rr1]) rfl ?_
    clear rr0 rr1
    rw [HMM.out]
    have hP : RPRep tagf k w8 p (P.setItem j (freedItem it mp)) := H.out.set_item HJ.out HFA8.out (fun t ht => by rcases ht with ht | ht <;> first | exact .inr (.inr (.inl ht)) | exact .inl ht) H1.out HL.out H5.out (x' := ⟨it.version,xh,.slice LA L.length lcap,.slice VA (addT mp it.through).length vcap⟩) HROWA8.out
     ⟨rfl,HXH.out,(by show ORow _ _ _ _ _ (others mp it.queue).length (askers (others mp it.queue)); rw [← HLE.out]; exact HLQ5.out.fr HGA8.out (by simp)),HTHR5.out.fr HGA8.out (by simp)⟩
    have hLz : Fr (fun t => t.1 = 0) tagf tagf w8 wz := by rw [hwz]; exact ((Fr.refl hokA8).sc b1 _ _ HTB5.out.2.1).sc b1 _ _ HTB5.out.2.1
    refine ⟨_,_,tagf,rfl,?_,?_,hP.fr hLz (fun r i => hk0),by rw [hwz]; exact (((HFA8.out.scn (by omega) _ _).scn (by omega) _ _).mono (fun t h => by rcases h with h | h <;> exact .inl (by rw [h])))⟩
    ·show Row _ _ _ _ _ _ P.out.length (posts P.out)
     rw [HO.out]
     exact Row.nil _ _ _ _ _
    ·show Row _ _ _ _ _ _ P.came.length (cames P.came)
     rw [HC.out]
     exact Row.nil _ _ _ _ _
   ·have hh2 := hho
    rw [HHP.out] at hh2
    simp only [Bool.and_eq_true,beq_iff_eq] at hh2
    have HHH := Lib.hid hh2
    clear hh2
    cases L with
    | nil =>
     have hm : freedM P ⟨mk,ms,P.no,mp,(j : Int),mv⟩ j it = P.setItem j { freedItem it mp with held := false,lk := ⟨0,0⟩ } := by
      have h1 : others mp it.queue = [] := HLE.out.symm
      simp only [freedM]
      rw [if_pos HHH.out]
      simp only [h1]
     have HMM := Lib.hid hm
     clear hm
     simp only [List.length_nil] at x2 HX5 HLQ5 ⊢
     go_upto_region 19 with fail
     clear x1 xz1 x2 m3 hho
     obtain ⟨w6,hw6⟩ : ∃ x,x = w5.setCell ⟨b2,1,none⟩ (.int .i64 (-1)) := ⟨_,rfl⟩
     rw [← hw6]
     have HF6 : Hid (Fr (fun t => t = (k,7,(j : Int))) tag tagf w w6) := Lib.hid (by rw [hw6]; exact HF5.out.scn (by omega) _ _)
     have HL6 : Hid (Fr (fun t => t.1 = 0) tagf tagf w5 w6) := Lib.hid (by rw [hw6]; exact Fr.setCell hok5 (a := ⟨b2,1,none⟩) HTB5.out.2.2.1 _)
     have HX6 : Hid (w6.heap[b2]? = some (.cells #[.int .i64 it.version,.int .i64 (-1),.slice LA 0 lcap,.slice VA (addT mp it.through).length vcap] 128 (0,0))) := Lib.hid (by rw [hw6,Go.Ng.heap_setCell_same HX5.out 1 _]; rfl)
     have HM6 := Lib.hid ((Go.Ng.heap_setCell_ne (show b ≠ b2 by omega) 1 (.int .i64 (-1))).trans HM5.out)
     have HZ6 := Lib.hid ((Go.Ng.heap_setCell_ne (show b1 ≠ b2 by omega) 1 (.int .i64 (-1))).trans HZ5.out)
     have HO6 := Lib.hid ((Go.Ng.heap_setCell_ne (show b4 ≠ b2 by omega) 1 (.int .i64 (-1))).trans HO5.out)
     rw [← hw6] at HM6 HZ6 HO6
     have hok6 := HF6.out.dom
     clear hw6
     have hib : tagf ib = (k,3,0) := (HF6.out.same ib his).trans HIT.out
     have hrow : Row tagf (k,3,0) 128 4 w6 (.slice (some ⟨ib,0,none⟩) its.length icap) its.length (its.flatMap RIt.cells) := H4.out.fr HF6.out (by simp [hRk,Ne.symm hRk])
     have d2 : w6.cell? ⟨p,2,none⟩ = some (.slice (some ⟨ib,0,none⟩) its.length icap) := HF6.out.cell HC2.out (by (try rw [HPT.out]); simp [hRk,Ne.symm hRk])
     have m4 : w6.cell? ⟨b,4,none⟩ = some (.int .i64 (j : Int)) := cell_of HM6.out 4
     have mz4 : w6.frozen? ⟨b,4,none⟩ = false := free_of HM6.out 4
     have x0 : w6.cell? ⟨b2,0,none⟩ = some (.int .i64 it.version) := cell_of HX6.out 0
     have xz0 : w6.frozen? ⟨b2,0,none⟩ = false := free_of HX6.out 0
     have x1 : w6.cell? ⟨b2,1,none⟩ = some (.int .i64 (-1)) := cell_of HX6.out 1
     have xz1 : w6.frozen? ⟨b2,1,none⟩ = false := free_of HX6.out 1
     have x2 : w6.cell? ⟨b2,2,none⟩ = some (.slice LA 0 lcap) := cell_of HX6.out 2
     have xz2 : w6.frozen? ⟨b2,2,none⟩ = false := free_of HX6.out 2
     have x3 : w6.cell? ⟨b2,3,none⟩ = some (.slice VA (addT mp it.through).length vcap) := cell_of HX6.out 3
     have xz3 : w6.frozen? ⟨b2,3,none⟩ = false := free_of HX6.out 3
     have y0 : w6.cell? ⟨ib,j * 4,none⟩ = some (.int .i64 it.version) := HF6.out.cell HE0.out (by (try rw [HIT.out]); simp [hRk,Ne.symm hRk])
     have y1 : w6.cell? ⟨ib,j * 4 + 1,none⟩ = some (.int .i64 xh) := HF6.out.cell HE1.out (by (try rw [HIT.out]); simp [hRk,Ne.symm hRk])
     have y2 : w6.cell? ⟨ib,j * 4 + 2,none⟩ = some (.slice WA it.queue.length wcap) := HF6.out.cell HE2.out (by (try rw [HIT.out]); simp [hRk,Ne.symm hRk])
     have y3 : w6.cell? ⟨ib,j * 4 + 3,none⟩ = some (.slice TA it.through.length tcap) := HF6.out.cell HE3.out (by (try rw [HIT.out]); simp [hRk,Ne.symm hRk])
     have hz : ∀ o,w6.frozen? ⟨ib,o,none⟩ = false := fun o => Row.free' hrow (by rw [rits_len]; omega)
     have z0 := hz (j * 4)
     have z1 := hz (j * 4 + 1)
     have z2 := hz (j * 4 + 2)
     have z3 := hz (j * 4 + 3)
     have HROW := Lib.hid hrow
     clear hz hrow
     refine start_ (n:=9) (S:=fun w' => w'.cell? ⟨p,2,none⟩ = some (.slice (some ⟨ib,0,none⟩) its.length icap) ∧ w'.cell? ⟨b,4,none⟩ = some (.int .i64 (j : Int)) ∧ w'.cell? ⟨b2,0,none⟩ = some (.int .i64 it.version) ∧ w'.cell? ⟨b2,1,none⟩ = some (.int .i64 (-1)) ∧ w'.cell? ⟨b2,2,none⟩ = some (.slice LA 0 lcap) ∧ w'.cell? ⟨b2,3,none⟩ = some (.slice VA (addT mp it.through).length vcap)) (ds := [8]) #[f_,f_,f_,f_,f_,f_,f_,f_,f_] (by kernel_rfl) rfl rfl ⟨d2,m4,x0,x1,x2,x3⟩ (fun hHeld => ?_)
     refine pv_ (i:=0) (N:=some 86) (v:=?_) (a':=?_) rfl rfl (by kernel_rfl) (fun _ _ _ h => h) (Or.inl ⟨by rfl,?_⟩) ?_ ?_
     rotate_left;intro w';go_simp;with_reducible rfl;rotate_left;simp only [Act.put,sA_,sB_,sC_,i64_w,i32_w];rfl
     refine pv_ (i:=1) (N:=some 87) (v:=?_) (a':=?_) rfl rfl (by kernel_rfl) (fun _ _ _ h => h) (Or.inl ⟨by rfl,?_⟩) ?_ ?_
     rotate_left;intro w';go_simp;with_reducible rfl;rotate_left;simp only [Act.put,sA_,sB_,sC_,i64_w,i32_w];rfl
     refine pv_ (i:=2) (N:=some 88) (v:=?_) (a':=?_) rfl rfl (by kernel_rfl) (fun _ _ _ h => h) (Or.inl ⟨by rfl,?_⟩) ?_ ?_
     rotate_left;intro w';go_simp;with_reducible rfl;rotate_left;simp only [Act.put,sA_,sB_,sC_,i64_w,i32_w];rfl
     refine pv_ (i:=4) (N:=some 90) (v:=?_) (a':=?_) rfl rfl (by kernel_rfl) (fun _ _ _ h => h) (Or.inl ⟨by rfl,?_⟩) ?_ ?_
     rotate_left;intro w';go_simp;with_reducible rfl;rotate_left;simp only [Act.put,sA_,sB_,sC_,i64_w,i32_w];rfl
     refine tv_ (i:=3) (N:=some 89) (v:=?_) (a':=?_) rfl rfl (by kernel_rfl) (fun _ _ _ h => h) (Or.inl ⟨by rfl,?_⟩) hHeld ?_ ?_
     rotate_left;rintro w' ⟨s0,s1,s2,s3,s4,s5⟩;go_simp;with_reducible rfl;rotate_left;simp only [Act.put,sA_,sB_,sC_,i64_w,i32_w];rfl
     refine tv_ (i:=5) (N:=some 91) (v:=?_) (a':=?_) rfl rfl (by kernel_rfl) (fun _ _ _ h => h) (Or.inl ⟨by rfl,?_⟩) hHeld ?_ ?_
     rotate_left;rintro w' ⟨s0,s1,s2,s3,s4,s5⟩;go_simp;with_reducible rfl;rotate_left;simp only [Act.put,sA_,sB_,sC_,i64_w,i32_w];rfl
     refine tv_ (i:=6) (N:=some 92) (v:=?_) (a':=?_) rfl rfl (by kernel_rfl) (fun _ _ _ h => h) (Or.inl ⟨by rfl,?_⟩) hHeld ?_ ?_
     rotate_left;rintro w' ⟨s0,s1,s2,s3,s4,s5⟩;go_simp;with_reducible rfl;rotate_left;simp only [Act.put,sA_,sB_,sC_,i64_w,i32_w];rfl
     refine pv_ (i:=7) (N:=some 93) (v:=?_) (a':=?_) rfl rfl (by kernel_rfl) (fun _ _ _ h => h) (Or.inl ⟨by rfl,?_⟩) ?_ ?_
     rotate_left;intro w';go_simp;with_reducible rfl;rotate_left;simp only [Act.put,sA_,sB_,sC_,i64_w,i32_w];rfl
     refine last_ (i:=8) (N:=none) #[t_,t_,t_,t_,t_,t_,t_,t_,t_] rfl rfl (by kernel_rfl) (by decide) (fun K hK => ?_)
     refine skip_ (w1:=?_) (by rfl) rfl ?_ ?_
     rotate_left
     ·go_simp
      rfl
     refine hK.out _ _ ?_
     clear hK K
     refine done_ (by kernel_rfl) ?_
     clear hHeld
     obtain ⟨w8,hW⟩ : ∃ x,x = ((((w6.setCell ⟨ib,j * 4,none⟩ (.int .i64 it.version)).setCell ⟨ib,j * 4 + 1,none⟩ (.int .i64 (-1))).setCell ⟨ib,j * 4 + 2,none⟩ (.slice LA 0 lcap)).setCell ⟨ib,j * 4 + 3,none⟩ (.slice VA (addT mp it.through).length vcap)).drew := ⟨_,rfl⟩
     rw [← hW]
     have hF : Fr (fun t => t = (k,7,(j : Int)) ∨ t = (k,3,0)) tag tagf w w8 := by
      rw [hW]
      exact (((((HF6.out.mono (fun _ h => .inl h)).sc ib _ _ (.inr hib)).sc ib _ _ (.inr hib)).sc ib _ _ (.inr hib)).sc ib _ _ (.inr hib)).dr
     have hG : Fr (fun t => t = (k,3,0)) tagf tagf w6 w8 := by
      rw [hW]
      exact (((((Fr.refl HF6.out.dom).sc ib _ _ hib).sc ib _ _ hib).sc ib _ _ hib).sc ib _ _ hib).dr
     have hrow2 : Row tagf (k,3,0) 128 4 w8 (.slice (some ⟨ib,0,none⟩) its.length icap) its.length ((its.set j ⟨it.version,(-1),.slice LA 0 lcap,.slice VA (addT mp it.through).length vcap⟩).flatMap RIt.cells) := by
      rw [hW,← rits_set its j ⟨it.version,(-1),.slice LA 0 lcap,.slice VA (addT mp it.through).length vcap⟩ hil]
      have hl := rits_len its
      exact ((((HROW.out.put_cell (j:=j * 4) (by omega) _).put_cell (j:=j * 4 + 1) (by simp only [List.length_set]; omega) _).put_cell (j:=j * 4 + 2) (by simp only [List.length_set]; omega) _).put_cell (j:=j * 4 + 3) (by simp only [List.length_set]; omega) _).drew
     have HFB8 := Lib.hid hF
     have HGB8 := Lib.hid hG
     have HROWB8 := Lib.hid hrow2
     have HMB8 := Lib.hid (hG.heap HM6.out (t0_ne HTB5'.out.1 hk0))
     have HZB8 := Lib.hid (hG.heap HZ6.out (t0_ne HTB5'.out.2.1 hk0))
     have hokB8 := hF.dom
     clear hW hF hG hrow2 hib d2 m4 mz4 x0 xz0 x1 xz1 x2 xz2 x3 xz3 y0 y1 y2 y3 z0 z1 z2 z3
     have HOE := Lib.hid (HGB8.out.heap HO6.out (t0_ne HTB5.out.2.2.2 hk0))
     have u0 : w8.cell? ⟨b4,0,none⟩ = some (.slice none 0 0) := cell_of HOE.out 0
     have u1 : w8.cell? ⟨b4,1,none⟩ = some (.slice none 0 0) := cell_of HOE.out 1
     have r0 : w8.cell? ⟨b1,0,none⟩ = some (.slice none 0 0) := cell_of HZB8.out 0
     have r1 : w8.cell? ⟨b1,1,none⟩ = some (.slice none 0 0) := cell_of HZB8.out 1
     have rz0 := free_of HZB8.out 0
     have rz1 := free_of HZB8.out 1
     go_wp2_with fail
     obtain ⟨wz,hwz⟩ : ∃ yy,yy = (w8.setCell ⟨b1,0,none⟩ (.slice none 0 0)).setCell ⟨b1,1,none⟩ (.slice none 0 0) := ⟨_,rfl⟩
     rw [← hwz]
     have hzz : wz.heap[b1]? = some (.cells #[.slice none 0 0,.slice none 0 0] 41 (0,0)) := by
      rw [hwz,Go.Ng.heap_setCell_same (Go.Ng.heap_setCell_same HZB8.out 0 _) 1 _]
      rfl
     have rr0 : wz.cell? ⟨b1,0,none⟩ = some (.slice none 0 0) := cell_of hzz 0
     have rr1 : wz.cell? ⟨b1,1,none⟩ = some (.slice none 0 0) := cell_of hzz 1
     refine bodyPost_ret (v:=.agg #[.slice none 0 0,.slice none 0 0]) (by simp [results,Try.results86,go_sem,rr0,rr1]) rfl ?_
     clear rr0 rr1
     rw [HMM.out]
     have hP : RPRep tagf k w8 p (P.setItem j { freedItem it mp with held := false,lk := ⟨0,0⟩ }) := H.out.set_item HJ.out HFB8.out (fun t ht => by rcases ht with ht | ht <;> first | exact .inr (.inr (.inl ht)) | exact .inl ht) H1.out HL.out H5.out (x' := ⟨it.version,-1,.slice LA 0 lcap,.slice VA (addT mp it.through).length vcap⟩) HROWB8.out
      ⟨rfl,rfl,(by show ORow _ _ _ _ _ (others mp it.queue).length (askers (others mp it.queue)); rw [← HLE.out]; exact (HLQ5.out.fr HL6.out hk0).fr HGB8.out (by simp)),(HTHR5.out.fr HL6.out hk0).fr HGB8.out (by simp)⟩
     have hLz : Fr (fun t => t.1 = 0) tagf tagf w8 wz := by rw [hwz]; exact ((Fr.refl hokB8).sc b1 _ _ HTB5.out.2.1).sc b1 _ _ HTB5.out.2.1
     refine ⟨_,_,tagf,rfl,?_,?_,hP.fr hLz (fun r i => hk0),by rw [hwz]; exact (((HFB8.out.scn (by omega) _ _).scn (by omega) _ _).mono (fun t h => by rcases h with h | h <;> exact .inl (by rw [h])))⟩
     ·show Row _ _ _ _ _ _ P.out.length (posts P.out)
      rw [HO.out]
      exact Row.nil _ _ _ _ _
     ·show Row _ _ _ _ _ _ P.came.length (cames P.came)
      rw [HC.out]
      exact Row.nil _ _ _ _ _
    | cons a l =>
     obtain ⟨ap,al⟩ := a
     simp only [List.length_cons] at x2 HX5 HLQ5 ⊢
     obtain ⟨lb,loff,rfl,hlt6⟩ : ∃ lb loff,LA = some ⟨lb,loff,none⟩ ∧ tagf lb = (k,6,(j : Int)) := by
      rcases HLQ5.out.form with ⟨A,hv,h0,_⟩ | ⟨lb,loff,cap',hv,g2,_⟩
      ·omega
      ·injection hv with hv _ _
       exact ⟨lb,loff,hv,g2⟩
     have HLT := Lib.hid hlt6
     clear hlt6
     have hone : (0 : Int) < ((l.length + 1 : Nat) : Int) := by omega
     go_upto_region 14 with fail
     clear x1 xz1 x2 m3 hho
     obtain ⟨w6,hw6⟩ : ∃ x,x = w5.setCell ⟨b2,1,none⟩ (.int .i64 (-1)) := ⟨_,rfl⟩
     rw [← hw6]
     have HF6 : Hid (Fr (fun t => t = (k,7,(j : Int))) tag tagf w w6) := Lib.hid (by rw [hw6]; exact HF5.out.scn (by omega) _ _)
     have HL6 : Hid (Fr (fun t => t.1 = 0) tagf tagf w5 w6) := Lib.hid (by rw [hw6]; exact Fr.setCell hok5 (a := ⟨b2,1,none⟩) HTB5.out.2.2.1 _)
     have HX6 : Hid (w6.heap[b2]? = some (.cells #[.int .i64 it.version,.int .i64 (-1),.slice (some ⟨lb,loff,none⟩) (l.length + 1) lcap,.slice VA (addT mp it.through).length vcap] 128 (0,0))) := Lib.hid (by rw [hw6,Go.Ng.heap_setCell_same HX5.out 1 _]; rfl)
     have HM6 := Lib.hid ((Go.Ng.heap_setCell_ne (show b ≠ b2 by omega) 1 (.int .i64 (-1))).trans HM5.out)
     have HZ6 := Lib.hid ((Go.Ng.heap_setCell_ne (show b1 ≠ b2 by omega) 1 (.int .i64 (-1))).trans HZ5.out)
     have HO6 := Lib.hid ((Go.Ng.heap_setCell_ne (show b4 ≠ b2 by omega) 1 (.int .i64 (-1))).trans HO5.out)
     rw [← hw6] at HM6 HZ6 HO6
     have hok6 := HF6.out.dom
     clear hw6
     have hrd := (HLQ5.out.fr HL6.out hk0).rd.form
     rcases hrd with ⟨hv,_⟩ | ⟨lb',loff',cap',hv,_,_,hce⟩
     ·cases hv
     injection hv with hv _ hv2
     injection hv with hv
     injection hv with hv hv3
     subst hv hv2 hv3
     have a0 : w6.cell? ⟨lb,loff,none⟩ = some (.int .i64 ap) := hce 0 _ rfl
     have a1 : w6.cell? ⟨lb,loff + 1,none⟩ = some (.int .i64 al) := hce 1 _ rfl
     clear hce
     have x2 : w6.cell? ⟨b2,2,none⟩ = some (.slice (some ⟨lb,loff,none⟩) (l.length + 1) lcap) := cell_of HX6.out 2
     have x1 : w6.cell? ⟨b2,1,none⟩ = some (.int .i64 (-1)) := cell_of HX6.out 1
     have xz1 := free_of HX6.out 1
     have xz2 := free_of HX6.out 2
     have hl6 := lt_of_heap HX6.out
     have hlcap : l.length + 1 ≤ lcap := l1
     have hm : freedM P ⟨mk,ms,P.no,mp,(j : Int),mv⟩ j it = (P.setItem j { freedItem it mp with held := true,lk := ⟨ap,al⟩,queue := l }).send 2 al ap (j : Int) 0 := by
      have h1 : others mp it.queue = ⟨ap,al⟩ :: l := HLE.out.symm
      simp only [freedM]
      rw [if_pos HHH.out]
      simp only [h1,others_self HQN.out,grantM]
     have HMM := Lib.hid hm
     clear hm
     have hl6 : l.length ≤ 100000 := by simp only [List.length_cons] at hL0; omega
     by_cases hcap : lcap = 1
     ·subst hcap
      obtain rfl : l = [] := List.eq_nil_of_length_eq_zero (by omega)
      simp only [List.length_nil,Nat.zero_add] at x2 HX6 HLQ5 hone ⊢
      go_upto_region 18 with fail
      clear x1 xz1 x2 xz2 a0 a1 hl6
      obtain ⟨w7,hw7⟩ : ∃ x,x = ((w6.setCell ⟨b2,2,none⟩ (.slice (some ⟨lb,loff,none⟩) 0 0)).setCell ⟨b2,1,none⟩ (.int .i64 ap)).alloc (.cells #[.int .i64 ap,.int .i64 al] 173) := ⟨_,rfl⟩
      rw [← hw7]
      obtain ⟨b5,hb5⟩ : ∃ x,x = w6.heap.size := ⟨_,rfl⟩
      rw [← hb5]
      have HF7 : Hid (Fr (fun t => t = (k,7,(j : Int))) tag tagf w w7) := Lib.hid (by rw [hw7]; exact ((HF6.out.scn (by omega) _ _).scn (by omega) _ _).al _)
      have HL7 : Hid (Fr (fun t => t.1 = 0) tagf tagf w6 w7) := Lib.hid (by rw [hw7]; exact (((Fr.refl hok6).sc b2 _ _ HTB5.out.2.2.1).sc b2 _ _ HTB5.out.2.2.1).al _)
      have HX7 : Hid (w7.heap[b2]? = some (.cells #[.int .i64 it.version,.int .i64 ap,.slice (some ⟨lb,loff,none⟩) 0 0,.slice VA (addT mp it.through).length vcap] 128 (0,0))) := Lib.hid (by rw [hw7]; exact heap_alloc_lt (by rw [Go.Ng.heap_setCell_same (Go.Ng.heap_setCell_same HX6.out 2 _) 1 _]; rfl) _)
      have hz7 : ∀ x y,x ≠ b2 → w6.heap[x]? = some y → w7.heap[x]? = some y := fun x y hx hy => by rw [hw7]; exact heap_alloc_lt ((Go.Ng.heap_setCell_ne hx _ _).trans ((Go.Ng.heap_setCell_ne hx _ _).trans hy)) _
      have HM7 := Lib.hid (hz7 _ _ (by omega) HM6.out)
      have HZ7 := Lib.hid (hz7 _ _ (by omega) HZ6.out)
      have HO7 := Lib.hid (hz7 _ _ (by omega) HO6.out)
      have HH7 : Hid (w7.heap[b5]? = some (.cells #[.int .i64 ap,.int .i64 al] 173 (0,0))) := Lib.hid (by rw [hw7,hb5]; have := heap_alloc_at ((w6.setCell ⟨b2,2,none⟩ (.slice (some ⟨lb,loff,none⟩) 0 0)).setCell ⟨b2,1,none⟩ (.int .i64 ap)) (.cells #[.int .i64 ap,.int .i64 al] 173); rwa [World.size_setCell,World.size_setCell] at this)
      have hok7 := HF7.out.dom
      clear hw7 hb5 hz7
      have m0 : w7.cell? ⟨b,0,none⟩ = some (.int .i64 mk) := cell_of HM7.out 0
      have m1 : w7.cell? ⟨b,1,none⟩ = some (.int .i64 ms) := cell_of HM7.out 1
      have m2 : w7.cell? ⟨b,2,none⟩ = some (.int .i64 P.no) := cell_of HM7.out 2
      have m3 : w7.cell? ⟨b,3,none⟩ = some (.int .i64 mp) := cell_of HM7.out 3
      have m4 : w7.cell? ⟨b,4,none⟩ = some (.int .i64 (j : Int)) := cell_of HM7.out 4
      have m5 : w7.cell? ⟨b,5,none⟩ = some (.int .i64 mv) := cell_of HM7.out 5
      have h0 : w7.cell? ⟨b5,0,none⟩ = some (.int .i64 ap) := cell_of HH7.out 0
      have h1 : w7.cell? ⟨b5,1,none⟩ = some (.int .i64 al) := cell_of HH7.out 1
      go_upto_region 19 with (
       go_at_call 117
       refine (rback_agg mk ms P.no mp (j : Int) mv 2 ap al _ hok7).mono ?_
       rintro e wx ⟨rfl,hFx⟩
       have hOx := hFx.heap HO7.out (fun x => x)
       have hlx := lt_of_heap hOx
       have o0 : wx.cell? ⟨b4,0,none⟩ = some (.slice none 0 0) := cell_of hOx 0
       have oz0 := free_of hOx 0
       have HOX := Lib.hid hOx
       have HFX := Lib.hid hFx
       clear hFx hOx)
      clear m0 m1 m2 m3 m4 m5 h0 h1 o0 oz0
      obtain ⟨w9,hw9⟩ : ∃ x,x = (wx.setCell ⟨b4,0,none⟩ (.slice (some ⟨wx.heap.size,0,none⟩) 1 1)).alloc (.cells #[.int .i64 2,.int .i64 P.no,.int .i64 al,.int .i64 ap,.int .i64 (j : Int),.int .i64 0] 49) := ⟨_,rfl⟩
      rw [← hw9]
      obtain ⟨k1,k2,k3,k4⟩ := post_cell (HF7.out.trans HFX.out.up) HWL.out HOX.out (R,1,0) ⟨2,P.no,al,ap,(j : Int),0⟩ HTB5.out.2.2.2 hw9
      have HF9 := Lib.hid k1
      have HP9 := Lib.hid k2
      have HL9 := Lib.hid k3
      have HO9 := Lib.hid k4
      have hne : ∀ x y,wx.heap[x]? = some y → give tagf wx.heap.size (R,1,0) x = tagf x := fun x y hx => give_ne _ _ (by have := lt_of_heap hx; omega)
      have hMx := HFX.out.heap HM7.out (fun x => x)
      have hZx := HFX.out.heap HZ7.out (fun x => x)
      have hXx := HFX.out.heap HX7.out (fun x => x)
      have HTB9 : Hid ((give tagf wx.heap.size (R,1,0) b).1 = 0 ∧ (give tagf wx.heap.size (R,1,0) b1).1 = 0 ∧ (give tagf wx.heap.size (R,1,0) b2).1 = 0) := Lib.hid ⟨by rw [hne _ _ hMx]; exact HTB5.out.1,by rw [hne _ _ hZx]; exact HTB5.out.2.1,by rw [hne _ _ hXx]; exact HTB5.out.2.2.1⟩
      have HTO9 : Hid ((give tagf wx.heap.size (R,1,0) b4).1 = 0) := Lib.hid (by rw [hne _ _ HOX.out]; exact HTB5.out.2.2.2)
      have hz9 : ∀ x y,x ≠ b4 → wx.heap[x]? = some y → w9.heap[x]? = some y := fun x y hx hy => by rw [hw9]; exact heap_alloc_lt ((Go.Ng.heap_setCell_ne hx _ _).trans hy) _
      have HM9 := Lib.hid (hz9 _ _ (by omega) hMx)
      have HZ9 := Lib.hid (hz9 _ _ (by omega) hZx)
      have HX9 := Lib.hid (hz9 _ _ (by omega) hXx)
      obtain ⟨tag9,htag9⟩ : ∃ x,x = give tagf wx.heap.size (R,1,0) := ⟨_,rfl⟩
      rw [← htag9] at HF9 HP9 HL9 HTB9 HTO9
      clear k1 k2 k3 k4 hne hMx hZx hXx hz9 hw9 htag9 hlx
      have hib : tag9 ib = (k,3,0) := (HF9.out.same ib his).trans HIT.out
      have hrow : Row tag9 (k,3,0) 128 4 w9 (.slice (some ⟨ib,0,none⟩) its.length icap) its.length (its.flatMap RIt.cells) := H4.out.fr HF9.out (by simp [hRk,Ne.symm hRk])
      have d2 : w9.cell? ⟨p,2,none⟩ = some (.slice (some ⟨ib,0,none⟩) its.length icap) := HF9.out.cell HC2.out (by (try rw [HPT.out]); simp [hRk,Ne.symm hRk])
      have m4 : w9.cell? ⟨b,4,none⟩ = some (.int .i64 (j : Int)) := cell_of HM9.out 4
      have mz4 : w9.frozen? ⟨b,4,none⟩ = false := free_of HM9.out 4
      have x0 : w9.cell? ⟨b2,0,none⟩ = some (.int .i64 it.version) := cell_of HX9.out 0
      have xz0 : w9.frozen? ⟨b2,0,none⟩ = false := free_of HX9.out 0
      have x1 : w9.cell? ⟨b2,1,none⟩ = some (.int .i64 ap) := cell_of HX9.out 1
      have xz1 : w9.frozen? ⟨b2,1,none⟩ = false := free_of HX9.out 1
      have x2 : w9.cell? ⟨b2,2,none⟩ = some (.slice (some ⟨lb,loff,none⟩) 0 0) := cell_of HX9.out 2
      have xz2 : w9.frozen? ⟨b2,2,none⟩ = false := free_of HX9.out 2
      have x3 : w9.cell? ⟨b2,3,none⟩ = some (.slice VA (addT mp it.through).length vcap) := cell_of HX9.out 3
      have xz3 : w9.frozen? ⟨b2,3,none⟩ = false := free_of HX9.out 3
      have y0 : w9.cell? ⟨ib,j * 4,none⟩ = some (.int .i64 it.version) := HF9.out.cell HE0.out (by (try rw [HIT.out]); simp [hRk,Ne.symm hRk])
      have y1 : w9.cell? ⟨ib,j * 4 + 1,none⟩ = some (.int .i64 xh) := HF9.out.cell HE1.out (by (try rw [HIT.out]); simp [hRk,Ne.symm hRk])
      have y2 : w9.cell? ⟨ib,j * 4 + 2,none⟩ = some (.slice WA it.queue.length wcap) := HF9.out.cell HE2.out (by (try rw [HIT.out]); simp [hRk,Ne.symm hRk])
      have y3 : w9.cell? ⟨ib,j * 4 + 3,none⟩ = some (.slice TA it.through.length tcap) := HF9.out.cell HE3.out (by (try rw [HIT.out]); simp [hRk,Ne.symm hRk])
      have hz : ∀ o,w9.frozen? ⟨ib,o,none⟩ = false := fun o => Row.free' hrow (by rw [rits_len]; omega)
      have z0 := hz (j * 4)
      have z1 := hz (j * 4 + 1)
      have z2 := hz (j * 4 + 2)
      have z3 := hz (j * 4 + 3)
      have HROW := Lib.hid hrow
      clear hz hrow
      refine start_ (n:=9) (S:=fun w' => w'.cell? ⟨p,2,none⟩ = some (.slice (some ⟨ib,0,none⟩) its.length icap) ∧ w'.cell? ⟨b,4,none⟩ = some (.int .i64 (j : Int)) ∧ w'.cell? ⟨b2,0,none⟩ = some (.int .i64 it.version) ∧ w'.cell? ⟨b2,1,none⟩ = some (.int .i64 ap) ∧ w'.cell? ⟨b2,2,none⟩ = some (.slice (some ⟨lb,loff,none⟩) 0 0) ∧ w'.cell? ⟨b2,3,none⟩ = some (.slice VA (addT mp it.through).length vcap)) (ds := [8]) #[f_,f_,f_,f_,f_,f_,f_,f_,f_] (by kernel_rfl) rfl rfl ⟨d2,m4,x0,x1,x2,x3⟩ (fun hHeld => ?_)
      refine pv_ (i:=0) (N:=some 86) (v:=?_) (a':=?_) rfl rfl (by kernel_rfl) (fun _ _ _ h => h) (Or.inl ⟨by rfl,?_⟩) ?_ ?_
      rotate_left;intro w';go_simp;with_reducible rfl;rotate_left;simp only [Act.put,sA_,sB_,sC_,i64_w,i32_w];rfl
      refine pv_ (i:=1) (N:=some 87) (v:=?_) (a':=?_) rfl rfl (by kernel_rfl) (fun _ _ _ h => h) (Or.inl ⟨by rfl,?_⟩) ?_ ?_
      rotate_left;intro w';go_simp;with_reducible rfl;rotate_left;simp only [Act.put,sA_,sB_,sC_,i64_w,i32_w];rfl
      refine pv_ (i:=2) (N:=some 88) (v:=?_) (a':=?_) rfl rfl (by kernel_rfl) (fun _ _ _ h => h) (Or.inl ⟨by rfl,?_⟩) ?_ ?_
      rotate_left;intro w';go_simp;with_reducible rfl;rotate_left;simp only [Act.put,sA_,sB_,sC_,i64_w,i32_w];rfl
      refine pv_ (i:=4) (N:=some 90) (v:=?_) (a':=?_) rfl rfl (by kernel_rfl) (fun _ _ _ h => h) (Or.inl ⟨by rfl,?_⟩) ?_ ?_
      rotate_left;intro w';go_simp;with_reducible rfl;rotate_left;simp only [Act.put,sA_,sB_,sC_,i64_w,i32_w];rfl
      refine tv_ (i:=3) (N:=some 89) (v:=?_) (a':=?_) rfl rfl (by kernel_rfl) (fun _ _ _ h => h) (Or.inl ⟨by rfl,?_⟩) hHeld ?_ ?_
      rotate_left;rintro w' ⟨s0,s1,s2,s3,s4,s5⟩;go_simp;with_reducible rfl;rotate_left;simp only [Act.put,sA_,sB_,sC_,i64_w,i32_w];rfl
      refine tv_ (i:=5) (N:=some 91) (v:=?_) (a':=?_) rfl rfl (by kernel_rfl) (fun _ _ _ h => h) (Or.inl ⟨by rfl,?_⟩) hHeld ?_ ?_
      rotate_left;rintro w' ⟨s0,s1,s2,s3,s4,s5⟩;go_simp;with_reducible rfl;rotate_left;simp only [Act.put,sA_,sB_,sC_,i64_w,i32_w];rfl
      refine tv_ (i:=6) (N:=some 92) (v:=?_) (a':=?_) rfl rfl (by kernel_rfl) (fun _ _ _ h => h) (Or.inl ⟨by rfl,?_⟩) hHeld ?_ ?_
      rotate_left;rintro w' ⟨s0,s1,s2,s3,s4,s5⟩;go_simp;with_reducible rfl;rotate_left;simp only [Act.put,sA_,sB_,sC_,i64_w,i32_w];rfl
      refine pv_ (i:=7) (N:=some 93) (v:=?_) (a':=?_) rfl rfl (by kernel_rfl) (fun _ _ _ h => h) (Or.inl ⟨by rfl,?_⟩) ?_ ?_
      rotate_left;intro w';go_simp;with_reducible rfl;rotate_left;simp only [Act.put,sA_,sB_,sC_,i64_w,i32_w];rfl
      refine last_ (i:=8) (N:=none) #[t_,t_,t_,t_,t_,t_,t_,t_,t_] rfl rfl (by kernel_rfl) (by decide) (fun K hK => ?_)
      refine skip_ (w1:=?_) (by rfl) rfl ?_ ?_
      rotate_left
      ·go_simp
       rfl
      refine hK.out _ _ ?_
      clear hK K
      refine done_ (by kernel_rfl) ?_
      clear hHeld
      obtain ⟨w8,hW⟩ : ∃ x,x = ((((w9.setCell ⟨ib,j * 4,none⟩ (.int .i64 it.version)).setCell ⟨ib,j * 4 + 1,none⟩ (.int .i64 ap)).setCell ⟨ib,j * 4 + 2,none⟩ (.slice (some ⟨lb,loff,none⟩) 0 0)).setCell ⟨ib,j * 4 + 3,none⟩ (.slice VA (addT mp it.through).length vcap)).drew := ⟨_,rfl⟩
      rw [← hW]
      have hF : Fr (fun t => t = (k,7,(j : Int)) ∨ t = (k,3,0)) tag tag9 w w8 := by
       rw [hW]
       exact (((((HF9.out.mono (fun _ h => .inl h)).sc ib _ _ (.inr hib)).sc ib _ _ (.inr hib)).sc ib _ _ (.inr hib)).sc ib _ _ (.inr hib)).dr
      have hG : Fr (fun t => t = (k,3,0)) tag9 tag9 w9 w8 := by
       rw [hW]
       exact (((((Fr.refl HF9.out.dom).sc ib _ _ hib).sc ib _ _ hib).sc ib _ _ hib).sc ib _ _ hib).dr
      have hrow2 : Row tag9 (k,3,0) 128 4 w8 (.slice (some ⟨ib,0,none⟩) its.length icap) its.length ((its.set j ⟨it.version,ap,.slice (some ⟨lb,loff,none⟩) 0 0,.slice VA (addT mp it.through).length vcap⟩).flatMap RIt.cells) := by
       rw [hW,← rits_set its j ⟨it.version,ap,.slice (some ⟨lb,loff,none⟩) 0 0,.slice VA (addT mp it.through).length vcap⟩ hil]
       have hl := rits_len its
       exact ((((HROW.out.put_cell (j:=j * 4) (by omega) _).put_cell (j:=j * 4 + 1) (by simp only [List.length_set]; omega) _).put_cell (j:=j * 4 + 2) (by simp only [List.length_set]; omega) _).put_cell (j:=j * 4 + 3) (by simp only [List.length_set]; omega) _).drew
      have HFC8 := Lib.hid hF
      have HGC8 := Lib.hid hG
      have HROWC8 := Lib.hid hrow2
      have HMC8 := Lib.hid (hG.heap HM9.out (t0_ne HTB9.out.1 hk0))
      have HZC8 := Lib.hid (hG.heap HZ9.out (t0_ne HTB9.out.2.1 hk0))
      have hokC8 := hF.dom
      clear hW hF hG hrow2 hib d2 m4 mz4 x0 xz0 x1 xz1 x2 xz2 x3 xz3 y0 y1 y2 y3 z0 z1 z2 z3
      have HOE := Lib.hid (HGC8.out.heap HO9.out (t0_ne HTO9.out hk0))
      have u0 : w8.cell? ⟨b4,0,none⟩ = some (.slice (some ⟨wx.heap.size,0,none⟩) 1 1) := cell_of HOE.out 0
      have u1 : w8.cell? ⟨b4,1,none⟩ = some (.slice none 0 0) := cell_of HOE.out 1
      have r0 : w8.cell? ⟨b1,0,none⟩ = some (.slice none 0 0) := cell_of HZC8.out 0
      have r1 : w8.cell? ⟨b1,1,none⟩ = some (.slice none 0 0) := cell_of HZC8.out 1
      have rz0 := free_of HZC8.out 0
      have rz1 := free_of HZC8.out 1
      go_wp2_with fail
      obtain ⟨wz,hwz⟩ : ∃ yy,yy = (w8.setCell ⟨b1,0,none⟩ (.slice (some ⟨wx.heap.size,0,none⟩) 1 1)).setCell ⟨b1,1,none⟩ (.slice none 0 0) := ⟨_,rfl⟩
      rw [← hwz]
      have hzz : wz.heap[b1]? = some (.cells #[.slice (some ⟨wx.heap.size,0,none⟩) 1 1,.slice none 0 0] 41 (0,0)) := by
       rw [hwz,Go.Ng.heap_setCell_same (Go.Ng.heap_setCell_same HZC8.out 0 _) 1 _]
       rfl
      have rr0 : wz.cell? ⟨b1,0,none⟩ = some (.slice (some ⟨wx.heap.size,0,none⟩) 1 1) := cell_of hzz 0
      have rr1 : wz.cell? ⟨b1,1,none⟩ = some (.slice none 0 0) := cell_of hzz 1
      refine bodyPost_ret (v:=.agg #[.slice (some ⟨wx.heap.size,0,none⟩) 1 1,.slice none 0 0]) (by simp [results,Try.results86,go_sem,rr0,rr1]) rfl ?_
      clear rr0 rr1
      rw [HMM.out]
      have HQE : Hid (ORow tag9 (k,6,(j : Int)) 2 w8 (.slice (some ⟨lb,loff,none⟩) 0 0) 0 (askers ([] : List Asker))) := Lib.hid ((((((HLQ5.out.fr HL6.out hk0).tail1 (n:=0)).2.fr HL7.out hk0).frF' HFX.out).fr HL9.out hk0).fr HGC8.out (by simp))
      have hP : RPRep tag9 k w8 p (P.setItem j { freedItem it mp with held := true,lk := ⟨ap,al⟩,queue := ([] : List Asker) }) := H.out.set_item HJ.out HFC8.out (fun t ht => by rcases ht with ht | ht <;> first | exact .inr (.inr (.inl ht)) | exact .inl ht) H1.out HL.out H5.out (x' := ⟨it.version,ap,.slice (some ⟨lb,loff,none⟩) 0 0,.slice VA (addT mp it.through).length vcap⟩) HROWC8.out
       ⟨rfl,rfl,HQE.out,((((HTHR5.out.fr HL6.out hk0).fr HL7.out hk0).fr HFX.out (fun x => x)).fr HL9.out hk0).fr HGC8.out (by simp)⟩
      have hLz : Fr (fun t => t.1 = 0) tag9 tag9 w8 wz := by rw [hwz]; exact ((Fr.refl hokC8).sc b1 _ _ HTB9.out.2.1).sc b1 _ _ HTB9.out.2.1
      refine ⟨_,_,tag9,rfl,?_,?_,(hP.fr hLz (fun r i => hk0)).congr rfl rfl rfl rfl,by rw [hwz]; exact (((HFC8.out.scn (by omega) _ _).scn (by omega) _ _).mono (fun t h => by rcases h with h | h <;> exact .inl (by rw [h])))⟩
      ·show Row _ _ _ _ _ _ (P.out ++ [_]).length (posts (P.out ++ [_]))
       rw [HO.out]
       exact (HP9.out.fr HGC8.out (by intro e; injection e with e _; exact hRk e)).fr hLz hR
      ·show Row _ _ _ _ _ _ P.came.length (cames P.came)
       rw [HC.out]
       exact Row.nil _ _ _ _ _
     ·go_upto_region 18 with fail
      clear x1 xz1 x2 xz2 a0 a1 hl6
      obtain ⟨w7,hw7⟩ : ∃ x,x = ((w6.setCell ⟨b2,2,none⟩ (.slice (some ⟨lb,loff + 2,none⟩) l.length (lcap - 1))).setCell ⟨b2,1,none⟩ (.int .i64 ap)).alloc (.cells #[.int .i64 ap,.int .i64 al] 173) := ⟨_,rfl⟩
      rw [← hw7]
      obtain ⟨b5,hb5⟩ : ∃ x,x = w6.heap.size := ⟨_,rfl⟩
      rw [← hb5]
      have HF7 : Hid (Fr (fun t => t = (k,7,(j : Int))) tag tagf w w7) := Lib.hid (by rw [hw7]; exact ((HF6.out.scn (by omega) _ _).scn (by omega) _ _).al _)
      have HL7 : Hid (Fr (fun t => t.1 = 0) tagf tagf w6 w7) := Lib.hid (by rw [hw7]; exact (((Fr.refl hok6).sc b2 _ _ HTB5.out.2.2.1).sc b2 _ _ HTB5.out.2.2.1).al _)
      have HX7 : Hid (w7.heap[b2]? = some (.cells #[.int .i64 it.version,.int .i64 ap,.slice (some ⟨lb,loff + 2,none⟩) l.length (lcap - 1),.slice VA (addT mp it.through).length vcap] 128 (0,0))) := Lib.hid (by rw [hw7]; exact heap_alloc_lt (by rw [Go.Ng.heap_setCell_same (Go.Ng.heap_setCell_same HX6.out 2 _) 1 _]; rfl) _)
      have hz7 : ∀ x y,x ≠ b2 → w6.heap[x]? = some y → w7.heap[x]? = some y := fun x y hx hy => by rw [hw7]; exact heap_alloc_lt ((Go.Ng.heap_setCell_ne hx _ _).trans ((Go.Ng.heap_setCell_ne hx _ _).trans hy)) _
      have HM7 := Lib.hid (hz7 _ _ (by omega) HM6.out)
      have HZ7 := Lib.hid (hz7 _ _ (by omega) HZ6.out)
      have HO7 := Lib.hid (hz7 _ _ (by omega) HO6.out)
      have HH7 : Hid (w7.heap[b5]? = some (.cells #[.int .i64 ap,.int .i64 al] 173 (0,0))) := Lib.hid (by rw [hw7,hb5]; have := heap_alloc_at ((w6.setCell ⟨b2,2,none⟩ (.slice (some ⟨lb,loff + 2,none⟩) l.length (lcap - 1))).setCell ⟨b2,1,none⟩ (.int .i64 ap)) (.cells #[.int .i64 ap,.int .i64 al] 173); rwa [World.size_setCell,World.size_setCell] at this)
      have hok7 := HF7.out.dom
      clear hw7 hb5 hz7
      have m0 : w7.cell? ⟨b,0,none⟩ = some (.int .i64 mk) := cell_of HM7.out 0
      have m1 : w7.cell? ⟨b,1,none⟩ = some (.int .i64 ms) := cell_of HM7.out 1
      have m2 : w7.cell? ⟨b,2,none⟩ = some (.int .i64 P.no) := cell_of HM7.out 2
      have m3 : w7.cell? ⟨b,3,none⟩ = some (.int .i64 mp) := cell_of HM7.out 3
      have m4 : w7.cell? ⟨b,4,none⟩ = some (.int .i64 (j : Int)) := cell_of HM7.out 4
      have m5 : w7.cell? ⟨b,5,none⟩ = some (.int .i64 mv) := cell_of HM7.out 5
      have h0 : w7.cell? ⟨b5,0,none⟩ = some (.int .i64 ap) := cell_of HH7.out 0
      have h1 : w7.cell? ⟨b5,1,none⟩ = some (.int .i64 al) := cell_of HH7.out 1
      go_upto_region 19 with (
       go_at_call 117
       refine (rback_agg mk ms P.no mp (j : Int) mv 2 ap al _ hok7).mono ?_
       rintro e wx ⟨rfl,hFx⟩
       have hOx := hFx.heap HO7.out (fun x => x)
       have hlx := lt_of_heap hOx
       have o0 : wx.cell? ⟨b4,0,none⟩ = some (.slice none 0 0) := cell_of hOx 0
       have oz0 := free_of hOx 0
       have HOX := Lib.hid hOx
       have HFX := Lib.hid hFx
       clear hFx hOx)
      clear m0 m1 m2 m3 m4 m5 h0 h1 o0 oz0
      obtain ⟨w9,hw9⟩ : ∃ x,x = (wx.setCell ⟨b4,0,none⟩ (.slice (some ⟨wx.heap.size,0,none⟩) 1 1)).alloc (.cells #[.int .i64 2,.int .i64 P.no,.int .i64 al,.int .i64 ap,.int .i64 (j : Int),.int .i64 0] 49) := ⟨_,rfl⟩
      rw [← hw9]
      obtain ⟨k1,k2,k3,k4⟩ := post_cell (HF7.out.trans HFX.out.up) HWL.out HOX.out (R,1,0) ⟨2,P.no,al,ap,(j : Int),0⟩ HTB5.out.2.2.2 hw9
      have HF9 := Lib.hid k1
      have HP9 := Lib.hid k2
      have HL9 := Lib.hid k3
      have HO9 := Lib.hid k4
      have hne : ∀ x y,wx.heap[x]? = some y → give tagf wx.heap.size (R,1,0) x = tagf x := fun x y hx => give_ne _ _ (by have := lt_of_heap hx; omega)
      have hMx := HFX.out.heap HM7.out (fun x => x)
      have hZx := HFX.out.heap HZ7.out (fun x => x)
      have hXx := HFX.out.heap HX7.out (fun x => x)
      have HTB9 : Hid ((give tagf wx.heap.size (R,1,0) b).1 = 0 ∧ (give tagf wx.heap.size (R,1,0) b1).1 = 0 ∧ (give tagf wx.heap.size (R,1,0) b2).1 = 0) := Lib.hid ⟨by rw [hne _ _ hMx]; exact HTB5.out.1,by rw [hne _ _ hZx]; exact HTB5.out.2.1,by rw [hne _ _ hXx]; exact HTB5.out.2.2.1⟩
      have HTO9 : Hid ((give tagf wx.heap.size (R,1,0) b4).1 = 0) := Lib.hid (by rw [hne _ _ HOX.out]; exact HTB5.out.2.2.2)
      have hz9 : ∀ x y,x ≠ b4 → wx.heap[x]? = some y → w9.heap[x]? = some y := fun x y hx hy => by rw [hw9]; exact heap_alloc_lt ((Go.Ng.heap_setCell_ne hx _ _).trans hy) _
      have HM9 := Lib.hid (hz9 _ _ (by omega) hMx)
      have HZ9 := Lib.hid (hz9 _ _ (by omega) hZx)
      have HX9 := Lib.hid (hz9 _ _ (by omega) hXx)
      obtain ⟨tag9,htag9⟩ : ∃ x,x = give tagf wx.heap.size (R,1,0) := ⟨_,rfl⟩
      rw [← htag9] at HF9 HP9 HL9 HTB9 HTO9
      clear k1 k2 k3 k4 hne hMx hZx hXx hz9 hw9 htag9 hlx
      have hib : tag9 ib = (k,3,0) := (HF9.out.same ib his).trans HIT.out
      have hrow : Row tag9 (k,3,0) 128 4 w9 (.slice (some ⟨ib,0,none⟩) its.length icap) its.length (its.flatMap RIt.cells) := H4.out.fr HF9.out (by simp [hRk,Ne.symm hRk])
      have d2 : w9.cell? ⟨p,2,none⟩ = some (.slice (some ⟨ib,0,none⟩) its.length icap) := HF9.out.cell HC2.out (by (try rw [HPT.out]); simp [hRk,Ne.symm hRk])
      have m4 : w9.cell? ⟨b,4,none⟩ = some (.int .i64 (j : Int)) := cell_of HM9.out 4
      have mz4 : w9.frozen? ⟨b,4,none⟩ = false := free_of HM9.out 4
      have x0 : w9.cell? ⟨b2,0,none⟩ = some (.int .i64 it.version) := cell_of HX9.out 0
      have xz0 : w9.frozen? ⟨b2,0,none⟩ = false := free_of HX9.out 0
      have x1 : w9.cell? ⟨b2,1,none⟩ = some (.int .i64 ap) := cell_of HX9.out 1
      have xz1 : w9.frozen? ⟨b2,1,none⟩ = false := free_of HX9.out 1
      have x2 : w9.cell? ⟨b2,2,none⟩ = some (.slice (some ⟨lb,loff + 2,none⟩) l.length (lcap - 1)) := cell_of HX9.out 2
      have xz2 : w9.frozen? ⟨b2,2,none⟩ = false := free_of HX9.out 2
      have x3 : w9.cell? ⟨b2,3,none⟩ = some (.slice VA (addT mp it.through).length vcap) := cell_of HX9.out 3
      have xz3 : w9.frozen? ⟨b2,3,none⟩ = false := free_of HX9.out 3
      have y0 : w9.cell? ⟨ib,j * 4,none⟩ = some (.int .i64 it.version) := HF9.out.cell HE0.out (by (try rw [HIT.out]); simp [hRk,Ne.symm hRk])
      have y1 : w9.cell? ⟨ib,j * 4 + 1,none⟩ = some (.int .i64 xh) := HF9.out.cell HE1.out (by (try rw [HIT.out]); simp [hRk,Ne.symm hRk])
      have y2 : w9.cell? ⟨ib,j * 4 + 2,none⟩ = some (.slice WA it.queue.length wcap) := HF9.out.cell HE2.out (by (try rw [HIT.out]); simp [hRk,Ne.symm hRk])
      have y3 : w9.cell? ⟨ib,j * 4 + 3,none⟩ = some (.slice TA it.through.length tcap) := HF9.out.cell HE3.out (by (try rw [HIT.out]); simp [hRk,Ne.symm hRk])
      have hz : ∀ o,w9.frozen? ⟨ib,o,none⟩ = false := fun o => Row.free' hrow (by rw [rits_len]; omega)
      have z0 := hz (j * 4)
      have z1 := hz (j * 4 + 1)
      have z2 := hz (j * 4 + 2)
      have z3 := hz (j * 4 + 3)
      have HROW := Lib.hid hrow
      clear hz hrow
      refine start_ (n:=9) (S:=fun w' => w'.cell? ⟨p,2,none⟩ = some (.slice (some ⟨ib,0,none⟩) its.length icap) ∧ w'.cell? ⟨b,4,none⟩ = some (.int .i64 (j : Int)) ∧ w'.cell? ⟨b2,0,none⟩ = some (.int .i64 it.version) ∧ w'.cell? ⟨b2,1,none⟩ = some (.int .i64 ap) ∧ w'.cell? ⟨b2,2,none⟩ = some (.slice (some ⟨lb,loff + 2,none⟩) l.length (lcap - 1)) ∧ w'.cell? ⟨b2,3,none⟩ = some (.slice VA (addT mp it.through).length vcap)) (ds := [8]) #[f_,f_,f_,f_,f_,f_,f_,f_,f_] (by kernel_rfl) rfl rfl ⟨d2,m4,x0,x1,x2,x3⟩ (fun hHeld => ?_)
      refine pv_ (i:=0) (N:=some 86) (v:=?_) (a':=?_) rfl rfl (by kernel_rfl) (fun _ _ _ h => h) (Or.inl ⟨by rfl,?_⟩) ?_ ?_
      rotate_left;intro w';go_simp;with_reducible rfl;rotate_left;simp only [Act.put,sA_,sB_,sC_,i64_w,i32_w];rfl
      refine pv_ (i:=1) (N:=some 87) (v:=?_) (a':=?_) rfl rfl (by kernel_rfl) (fun _ _ _ h => h) (Or.inl ⟨by rfl,?_⟩) ?_ ?_
      rotate_left;intro w';go_simp;with_reducible rfl;rotate_left;simp only [Act.put,sA_,sB_,sC_,i64_w,i32_w];rfl
      refine pv_ (i:=2) (N:=some 88) (v:=?_) (a':=?_) rfl rfl (by kernel_rfl) (fun _ _ _ h => h) (Or.inl ⟨by rfl,?_⟩) ?_ ?_
      rotate_left;intro w';go_simp;with_reducible rfl;rotate_left;simp only [Act.put,sA_,sB_,sC_,i64_w,i32_w];rfl
      refine pv_ (i:=4) (N:=some 90) (v:=?_) (a':=?_) rfl rfl (by kernel_rfl) (fun _ _ _ h => h) (Or.inl ⟨by rfl,?_⟩) ?_ ?_
      rotate_left;intro w';go_simp;with_reducible rfl;rotate_left;simp only [Act.put,sA_,sB_,sC_,i64_w,i32_w];rfl
      refine tv_ (i:=3) (N:=some 89) (v:=?_) (a':=?_) rfl rfl (by kernel_rfl) (fun _ _ _ h => h) (Or.inl ⟨by rfl,?_⟩) hHeld ?_ ?_
      rotate_left;rintro w' ⟨s0,s1,s2,s3,s4,s5⟩;go_simp;with_reducible rfl;rotate_left;simp only [Act.put,sA_,sB_,sC_,i64_w,i32_w];rfl
      refine tv_ (i:=5) (N:=some 91) (v:=?_) (a':=?_) rfl rfl (by kernel_rfl) (fun _ _ _ h => h) (Or.inl ⟨by rfl,?_⟩) hHeld ?_ ?_
      rotate_left;rintro w' ⟨s0,s1,s2,s3,s4,s5⟩;go_simp;with_reducible rfl;rotate_left;simp only [Act.put,sA_,sB_,sC_,i64_w,i32_w];rfl
      refine tv_ (i:=6) (N:=some 92) (v:=?_) (a':=?_) rfl rfl (by kernel_rfl) (fun _ _ _ h => h) (Or.inl ⟨by rfl,?_⟩) hHeld ?_ ?_
      rotate_left;rintro w' ⟨s0,s1,s2,s3,s4,s5⟩;go_simp;with_reducible rfl;rotate_left;simp only [Act.put,sA_,sB_,sC_,i64_w,i32_w];rfl
      refine pv_ (i:=7) (N:=some 93) (v:=?_) (a':=?_) rfl rfl (by kernel_rfl) (fun _ _ _ h => h) (Or.inl ⟨by rfl,?_⟩) ?_ ?_
      rotate_left;intro w';go_simp;with_reducible rfl;rotate_left;simp only [Act.put,sA_,sB_,sC_,i64_w,i32_w];rfl
      refine last_ (i:=8) (N:=none) #[t_,t_,t_,t_,t_,t_,t_,t_,t_] rfl rfl (by kernel_rfl) (by decide) (fun K hK => ?_)
      refine skip_ (w1:=?_) (by rfl) rfl ?_ ?_
      rotate_left
      ·go_simp
       rfl
      refine hK.out _ _ ?_
      clear hK K
      refine done_ (by kernel_rfl) ?_
      clear hHeld
      obtain ⟨w8,hW⟩ : ∃ x,x = ((((w9.setCell ⟨ib,j * 4,none⟩ (.int .i64 it.version)).setCell ⟨ib,j * 4 + 1,none⟩ (.int .i64 ap)).setCell ⟨ib,j * 4 + 2,none⟩ (.slice (some ⟨lb,loff + 2,none⟩) l.length (lcap - 1))).setCell ⟨ib,j * 4 + 3,none⟩ (.slice VA (addT mp it.through).length vcap)).drew := ⟨_,rfl⟩
      rw [← hW]
      have hF : Fr (fun t => t = (k,7,(j : Int)) ∨ t = (k,3,0)) tag tag9 w w8 := by
       rw [hW]
       exact (((((HF9.out.mono (fun _ h => .inl h)).sc ib _ _ (.inr hib)).sc ib _ _ (.inr hib)).sc ib _ _ (.inr hib)).sc ib _ _ (.inr hib)).dr
      have hG : Fr (fun t => t = (k,3,0)) tag9 tag9 w9 w8 := by
       rw [hW]
       exact (((((Fr.refl HF9.out.dom).sc ib _ _ hib).sc ib _ _ hib).sc ib _ _ hib).sc ib _ _ hib).dr
      have hrow2 : Row tag9 (k,3,0) 128 4 w8 (.slice (some ⟨ib,0,none⟩) its.length icap) its.length ((its.set j ⟨it.version,ap,.slice (some ⟨lb,loff + 2,none⟩) l.length (lcap - 1),.slice VA (addT mp it.through).length vcap⟩).flatMap RIt.cells) := by
       rw [hW,← rits_set its j ⟨it.version,ap,.slice (some ⟨lb,loff + 2,none⟩) l.length (lcap - 1),.slice VA (addT mp it.through).length vcap⟩ hil]
       have hl := rits_len its
       exact ((((HROW.out.put_cell (j:=j * 4) (by omega) _).put_cell (j:=j * 4 + 1) (by simp only [List.length_set]; omega) _).put_cell (j:=j * 4 + 2) (by simp only [List.length_set]; omega) _).put_cell (j:=j * 4 + 3) (by simp only [List.length_set]; omega) _).drew
      have HFD8 := Lib.hid hF
      have HGD8 := Lib.hid hG
      have HROWD8 := Lib.hid hrow2
      have HMD8 := Lib.hid (hG.heap HM9.out (t0_ne HTB9.out.1 hk0))
      have HZD8 := Lib.hid (hG.heap HZ9.out (t0_ne HTB9.out.2.1 hk0))
      have hokD8 := hF.dom
      clear hW hF hG hrow2 hib d2 m4 mz4 x0 xz0 x1 xz1 x2 xz2 x3 xz3 y0 y1 y2 y3 z0 z1 z2 z3
      have HOE := Lib.hid (HGD8.out.heap HO9.out (t0_ne HTO9.out hk0))
      have u0 : w8.cell? ⟨b4,0,none⟩ = some (.slice (some ⟨wx.heap.size,0,none⟩) 1 1) := cell_of HOE.out 0
      have u1 : w8.cell? ⟨b4,1,none⟩ = some (.slice none 0 0) := cell_of HOE.out 1
      have r0 : w8.cell? ⟨b1,0,none⟩ = some (.slice none 0 0) := cell_of HZD8.out 0
      have r1 : w8.cell? ⟨b1,1,none⟩ = some (.slice none 0 0) := cell_of HZD8.out 1
      have rz0 := free_of HZD8.out 0
      have rz1 := free_of HZD8.out 1
      go_wp2_with fail
      obtain ⟨wz,hwz⟩ : ∃ yy,yy = (w8.setCell ⟨b1,0,none⟩ (.slice (some ⟨wx.heap.size,0,none⟩) 1 1)).setCell ⟨b1,1,none⟩ (.slice none 0 0) := ⟨_,rfl⟩
      rw [← hwz]
      have hzz : wz.heap[b1]? = some (.cells #[.slice (some ⟨wx.heap.size,0,none⟩) 1 1,.slice none 0 0] 41 (0,0)) := by
       rw [hwz,Go.Ng.heap_setCell_same (Go.Ng.heap_setCell_same HZD8.out 0 _) 1 _]
       rfl
      have rr0 : wz.cell? ⟨b1,0,none⟩ = some (.slice (some ⟨wx.heap.size,0,none⟩) 1 1) := cell_of hzz 0
      have rr1 : wz.cell? ⟨b1,1,none⟩ = some (.slice none 0 0) := cell_of hzz 1
      refine bodyPost_ret (v:=.agg #[.slice (some ⟨wx.heap.size,0,none⟩) 1 1,.slice none 0 0]) (by simp [results,Try.results86,go_sem,rr0,rr1]) rfl ?_
      clear rr0 rr1
      rw [HMM.out]
      have HQE : Hid (ORow tag9 (k,6,(j : Int)) 2 w8 (.slice (some ⟨lb,loff + 2,none⟩) l.length (lcap - 1)) l.length (askers l)) := Lib.hid ((((((HLQ5.out.fr HL6.out hk0).tail (by omega)).fr HL7.out hk0).frF' HFX.out).fr HL9.out hk0).fr HGD8.out (by simp))
      have hP : RPRep tag9 k w8 p (P.setItem j { freedItem it mp with held := true,lk := ⟨ap,al⟩,queue := l }) := H.out.set_item HJ.out HFD8.out (fun t ht => by rcases ht with ht | ht <;> first | exact .inr (.inr (.inl ht)) | exact .inl ht) H1.out HL.out H5.out (x' := ⟨it.version,ap,.slice (some ⟨lb,loff + 2,none⟩) l.length (lcap - 1),.slice VA (addT mp it.through).length vcap⟩) HROWD8.out
       ⟨rfl,rfl,HQE.out,((((HTHR5.out.fr HL6.out hk0).fr HL7.out hk0).fr HFX.out (fun x => x)).fr HL9.out hk0).fr HGD8.out (by simp)⟩
      have hLz : Fr (fun t => t.1 = 0) tag9 tag9 w8 wz := by rw [hwz]; exact ((Fr.refl hokD8).sc b1 _ _ HTB9.out.2.1).sc b1 _ _ HTB9.out.2.1
      refine ⟨_,_,tag9,rfl,?_,?_,(hP.fr hLz (fun r i => hk0)).congr rfl rfl rfl rfl,by rw [hwz]; exact (((HFD8.out.scn (by omega) _ _).scn (by omega) _ _).mono (fun t h => by rcases h with h | h <;> exact .inl (by rw [h])))⟩
      ·show Row _ _ _ _ _ _ (P.out ++ [_]).length (posts (P.out ++ [_]))
       rw [HO.out]
       exact (HP9.out.fr HGD8.out (by intro e; injection e with e _; exact hRk e)).fr hLz hR
      ·show Row _ _ _ _ _ _ P.came.length (cames P.came)
       rw [HC.out]
       exact Row.nil _ _ _ _ _
end
end Go.Proofs.Ytclkokkppgchfaa
