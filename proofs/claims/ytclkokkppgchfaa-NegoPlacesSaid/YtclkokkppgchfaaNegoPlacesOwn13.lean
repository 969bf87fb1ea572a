/- A part of the proof: texts of this session, joined. -/
import Derived.Test.YtclkokkppgchfaaNegoPlacesOwn12
import Derived.Deep.DeepCutAuto
import Derived.Test.YtclkokkppgchfaaShort
set_option linter.unusedSimpArgs false
set_option linter.unusedVariables false
set_option maxHeartbeats 6400000
set_option maxRecDepth 100000
namespace Go.Proofs.Ytclkokkppgchfaa
open Go.RowKit Go.Ng Go.Proofs.YtclkokkppgchfaaW.PrintLast
theorem thrAll_app : ∀ (l t : List Int),l.Nodup → (∀ a ∈ l,a ∉ t) → thrAll l t = t ++ l
 | [],t,_,_ => by simp [thrAll]
 | a :: l,t,hn,ha => by
  have h1 : a ∉ t := ha a (by simp)
  rw [List.nodup_cons] at hn
  rw [thrAll,addP,if_neg h1,thrAll_app l (t ++ [a]) hn.2 (fun x hx => by
   rw [List.mem_append,List.mem_singleton]
   rintro (h | h)
   ·exact ha x (by simp [hx]) h
   ·subst h; exact hn.1 hx)]
  simp
def refL (no j : Int) (l : List Asker) : List Post := l.map (fun a => ⟨3,no,a.place,a.prop,j,0⟩)
def commIt (it : ItemM) (mp : Int) : ItemM := { it with version := it.version + 1,through := it.through ++ [mp] ++ it.queue.map (·.prop),held := false,lk := ⟨0,0⟩,queue := [] }
theorem committedM_eq {P : PlaceM} {m : Post} {j : Nat} {it : ItemM} (hI : ItOk it) (hj : P.items[j]? = some (some it)) (hh : it.held = true) (hp : it.lk.prop = m.prop) :
  committedM P m j it = { P with items := P.items.set j (some (commIt it m.prop)),out := P.out ++ refL P.no m.item it.queue,came := P.came ++ [⟨3,m.prop,m.item⟩] } := by
 have hjl := (List.getElem?_eq_some_iff.1 hj).1
 obtain ⟨h1,h2,_⟩ := hI.hold hh
 rw [hp] at h1 h2
 have ha : addT m.prop it.through = it.through ++ [m.prop] := by rw [addT,if_neg h1]
 rw [committedM,if_pos ⟨hh,hp⟩,refuseAll_eq _ _ _ _ _ (by simp [PlaceM.setItem,PlaceM.happen,hjl])]
 simp only [PlaceM.setItem,PlaceM.happen,ha,refL,commIt]
 rw [thrAll_app _ _ hI.qnd (fun a ha => ?_)]
 ·simp [List.set_set]
 ·obtain ⟨x,hx,rfl⟩ := List.mem_map.1 ha
  rw [List.mem_append,List.mem_singleton]
  rintro (h | h)
  ·exact hI.qt x hx h
  ·exact h2 x hx h
structure CommS (tag : Nat → Tag) (w : World) (k R j : Nat) (no mk ms mp mv : Int) (it : ItemM) (WV : Value) (b b1 b2 b3 b4 : Nat) (n : Nat) (tagr : Nat → Tag) (tv ov : Value) (wr : World) : Prop where
 hM : wr.heap[b]? = some (.cells #[.int .i64 mk,.int .i64 ms,.int .i64 no,.int .i64 mp,.int .i64 (j : Int),.int .i64 mv] 49 (0,0))
 hZ : wr.heap[b1]? = some (.cells #[.slice none 0 0,.slice none 0 0] 41 (0,0))
 hX : wr.heap[b2]? = some (.cells #[.int .i64 (it.version + 1),.int .i64 (-1),WV,tv] 128 (0,0))
 hO : wr.heap[b4]? = some (.cells #[ov,.slice (some ⟨b3,0,none⟩) 1 1] 41 (0,0))
 tb : (tagr b).1 = 0 ∧ (tagr b1).1 = 0 ∧ (tagr b2).1 = 0 ∧ (tagr b4).1 = 0
 thr : Row tagr (k,7,(j : Int)) 3 1 wr tv (it.through.length + 1 + n) (ints (it.through ++ [mp] ++ (it.queue.map (·.prop)).take n))
 out : Row tagr (R,1,0) 49 6 wr ov n (posts (refL no j (it.queue.take n)))
 came : Row tagr (R,2,0) 106 3 wr (.slice (some ⟨b3,0,none⟩) 1 1) 1 (cames [⟨3,mp,j⟩])
 fr : Fr (fun t => t = (k,7,(j : Int)) ∨ t = (R,1,0)) tag tagr w wr
section
variable {S : Tag → Prop} {tag tag' : Nat → Tag} {w w' : World} {k p R : Nat} {P P' : PlaceM}
theorem Row.came1 (h : TagOk tag w) (T : Tag) (m : Came) : Row (give tag w.heap.size T) T 106 3 (w.alloc (.cells m.cells.toArray 106)) (.slice (some ⟨w.heap.size,0,none⟩) 1 1) 1 (cames [m]) := by
 have hp : cames [m] = m.cells.toArray.toList := by simp [cames]
 rw [hp]
 exact .inl ⟨World.ownsRow_lit (base := 0) _ _ 1 (Nat.zero_le _) (by unfold maxLen; omega) (by simp [Came.cells]),fun b hb => by simp [Value.ownBlock] at hb; rw [← hb]; exact give_at _ _ _⟩
theorem rcommitted_ok {j : Nat} {it : ItemM} (m : Post) (h : RPRep tag k w p P) (hok : TagOk tag w) (hR : R ≠ 0) (hRk : R ≠ k) (hj : P.items[j]? = some (some it)) (hmj : m.item = j) (hd : m.dst = P.no) (hpr : 0 ≤ m.prop) (hI : ItOk it)
  (ho : P.out = []) (hc : P.came = []) :
  Calls Try.prog 85 #[.pointer (some ⟨p,0,none⟩),Post.val m] w (ROut R k p tag w (committedM P m j it)) := by
 obtain ⟨i49,hi49,hp0,hp1,hp2⟩ := info_parts Try.info49
 obtain ⟨i3,hi3,hy0,hy1,hy2⟩ := info_parts Try.info3
 obtain ⟨mk,ms,md,mp,mi,mv⟩ := m
 simp only at hmj hd hpr
 subst hmj hd
 obtain ⟨av,iv,pv,h1,h2,⟨its,h3,h4,h5⟩,hprs⟩ := h.cells
 obtain ⟨IA,icap,rfl,q1,q2⟩ := h4.form
 unfold maxLen at q2
 have hjl := (List.getElem?_eq_some_iff.1 hj).1
 obtain ⟨⟨xv,xh,xw,xt⟩,hx⟩ : ∃ c,its[j]? = some c := ⟨_,List.getElem?_eq_getElem (by omega)⟩
 have hri : RItem tag k w j it _ := h5 j _ _ hj hx
 obtain ⟨ib,hib,hit,his,hce⟩ := Row.elem (enc := RIt.cells) h4 (fun _ => rfl) (by decide) hx
 subst hib
 have c2 : w.cell? ⟨p,2,none⟩ = some (.slice (some ⟨ib,0,none⟩) its.length icap) := cell_of h1 2
 have e0 : w.cell? ⟨ib,j * 4,none⟩ = some (.int .i64 xv) := hce 0 _ rfl
 have e1 : w.cell? ⟨ib,j * 4 + 1,none⟩ = some (.int .i64 xh) := hce 1 _ rfl
 have e2 : w.cell? ⟨ib,j * 4 + 2,none⟩ = some xw := hce 2 _ rfl
 have e3 : w.cell? ⟨ib,j * 4 + 3,none⟩ = some xt := hce 3 _ rfl
 obtain ⟨rv,rh,rw',rt⟩ := hri
 simp only at rv rh rw' rt
 subst rv
 obtain ⟨WA,wcap,rfl,s1,s2⟩ := rw'.slice
 obtain ⟨TA,tcap,rfl,t1,t2⟩ := rt.form
 unfold maxLen at s2 t2
 have i1 : (0 : Int) ≤ (j : Int) := by omega
 have i2 : (j : Int) < (its.length : Int) := by omega
 have hil : j < its.length := by omega
 have hpl := lt_of_heap h1
 have H := Lib.hid h
 have HPT := Lib.hid h.ptr
 have HJ := Lib.hid hj
 have HX := Lib.hid hx
 have H1 := Lib.hid h1
 have H4 := Lib.hid h4
 have H5 := Lib.hid h5
 have HRW := Lib.hid rw'
 have HRT := Lib.hid rt
 have HI := Lib.hid hI
 have HO := Lib.hid ho
 have HC := Lib.hid hc
 have HL := Lib.hid h3
 have HXH := Lib.hid rh
 have hql := hI.ql
 have htl := hI.tl
 have hv0 := hI.ver.1
 have hv1 := hI.ver.2
 have hk0 := h.k0
 have HIT := Lib.hid hit
 clear h h1 h2 h3 h4 h5 hprs hj hx hce rw' rt hI ho hc hit rh
 unfold Post.val
 go_enter Try.func85,Try.ntmps85
 go_wp2_with fail
 refine start_ (n:=10) (S:=fun w' => w'.cell? ⟨p,2,none⟩ = some (.slice (some ⟨ib,0,none⟩) its.length icap) ∧ w'.cell? ⟨w.heap.size,4,none⟩ = some (.int .i64 (j : Int)) ∧ w'.cell? ⟨ib,j * 4,none⟩ = some (.int .i64 it.version) ∧ w'.cell? ⟨ib,j * 4 + 1,none⟩ = some (.int .i64 xh) ∧ w'.cell? ⟨ib,j * 4 + 2,none⟩ = some (.slice WA it.queue.length wcap) ∧ w'.cell? ⟨ib,j * 4 + 3,none⟩ = some (.slice TA it.through.length tcap)) (ds := [9]) #[f_,f_,f_,f_,f_,f_,f_,f_,f_,f_] (by kernel_rfl) rfl rfl ⟨ca (ca c2 _) _,by go_simp,ca (ca e0 _) _,ca (ca e1 _) _,ca (ca e2 _) _,ca (ca e3 _) _⟩ (fun hHeld => ?_)
 refine pv_ (i:=0) (N:=some 9) (v:=?_) (a':=?_) rfl rfl (by kernel_rfl) (fun _ _ _ h => h) (Or.inl ⟨by rfl,?_⟩) ?_ ?_
 rotate_left;intro w';go_simp;with_reducible rfl;rotate_left;simp only [Act.put,sA_,sB_,sC_,i64_w,i32_w];rfl
 refine pv_ (i:=1) (N:=some 10) (v:=?_) (a':=?_) rfl rfl (by kernel_rfl) (fun _ _ _ h => h) (Or.inl ⟨by rfl,?_⟩) ?_ ?_
 rotate_left;intro w';go_simp;with_reducible rfl;rotate_left;simp only [Act.put,sA_,sB_,sC_,i64_w,i32_w];rfl
 refine pv_ (i:=2) (N:=some 11) (v:=?_) (a':=?_) rfl rfl (by kernel_rfl) (fun _ _ _ h => h) (Or.inl ⟨by rfl,?_⟩) ?_ ?_
 rotate_left;intro w';go_simp;with_reducible rfl;rotate_left;simp only [Act.put,sA_,sB_,sC_,i64_w,i32_w];rfl
 refine pv_ (i:=4) (N:=some 13) (v:=?_) (a':=?_) rfl rfl (by kernel_rfl) (fun _ _ _ h => h) (Or.inl ⟨by rfl,?_⟩) ?_ ?_
 rotate_left;intro w';go_simp;with_reducible rfl;rotate_left;simp only [Act.put,sA_,sB_,sC_,i64_w,i32_w];rfl
 refine tv_ (i:=3) (N:=some 12) (v:=?_) (a':=?_) rfl rfl (by kernel_rfl) (fun _ _ _ h => h) (Or.inl ⟨by rfl,?_⟩) hHeld ?_ ?_
 rotate_left;rintro w' ⟨s0,s1,s2,s3,s4,s5⟩;go_simp;with_reducible rfl;rotate_left;simp only [Act.put,sA_,sB_,sC_,i64_w,i32_w];rfl
 refine tv_ (i:=5) (N:=some 14) (v:=?_) (a':=?_) rfl rfl (by kernel_rfl) (fun _ _ _ h => h) (Or.inl ⟨by rfl,?_⟩) hHeld ?_ ?_
 rotate_left;rintro w' ⟨s0,s1,s2,s3,s4,s5⟩;go_simp;with_reducible rfl;rotate_left;simp only [Act.put,sA_,sB_,sC_,i64_w,i32_w];rfl
 refine pv_ (i:=6) (N:=some 15) (v:=?_) (a':=?_) rfl rfl (by kernel_rfl) (fun _ _ _ h => h) (Or.inl ⟨by rfl,?_⟩) ?_ ?_
 rotate_left;intro w';go_simp;with_reducible rfl;rotate_left;simp only [Act.put,sA_,sB_,sC_,i64_w,i32_w];rfl
 refine tv_ (i:=7) (N:=some 16) (v:=?_) (a':=?_) rfl rfl (by kernel_rfl) (fun _ _ _ h => h) (Or.inl ⟨by rfl,?_⟩) hHeld ?_ ?_
 rotate_left;rintro w' ⟨s0,s1,s2,s3,s4,s5⟩;go_simp;with_reducible rfl;rotate_left;simp only [Act.put,sA_,sB_,sC_,i64_w,i32_w];rfl
 refine one_ (i:=8) (N:=some 5) #[t_,t_,t_,t_,t_,t_,t_,t_,t_,f_] rfl rfl (by kernel_rfl) (by decide) (fun K hK => ?_)
 refine value_ (w1:=?_) (v:=?_) (by rfl) rfl ?_ ?_
 rotate_left 2
 ·go_simp
  constructor
  ·rfl
  ·rfl
 refine hK.out _ _ ⟨(ca hHeld.1 _),(ca hHeld.2.1 _),(ca hHeld.2.2.1 _),(ca hHeld.2.2.2.1 _),(ca hHeld.2.2.2.2.1 _),(ca hHeld.2.2.2.2.2 _)⟩ (fun hHeld => ?_)
 clear hK K
 refine norm_ (a':=?_) ?_ ?_
 rotate_left
 ·show Act.put _ (some 5) _ = _
  simp only [Act.put,sA_,sB_,sC_,i64_w,i32_w]
  rfl
 refine last_ (i:=9) (N:=none) #[t_,t_,t_,t_,t_,t_,t_,t_,t_,t_] rfl rfl (by kernel_rfl) (by decide) (fun K hK => ?_)
 refine skip_ (w1:=?_) (by rfl) rfl ?_ ?_
 rotate_left
 ·go_simp
  rfl
 refine hK.out _ _ ?_
 clear hK K
 refine done_ (by kernel_rfl) ?_
 clear hHeld
 obtain ⟨w1,hw1⟩ : ∃ w1,w1 = (((w.alloc (.cells #[.int .i64 mk,.int .i64 ms,.int .i64 P.no,.int .i64 mp,.int .i64 (j : Int),.int .i64 mv] 49)).alloc (.cells #[.slice none 0 0,.slice none 0 0] 41)).alloc (.cells #[.int .i64 it.version,.int .i64 xh,.slice WA it.queue.length wcap,.slice TA it.through.length tcap] 128)).drew := ⟨_,rfl⟩
 rw [← hw1]
 obtain ⟨hM1,hZ1,hX1⟩ := heap3 w (.cells #[.int .i64 mk,.int .i64 ms,.int .i64 P.no,.int .i64 mp,.int .i64 (j : Int),.int .i64 mv] 49) (.cells #[.slice none 0 0,.slice none 0 0] 41) (.cells #[.int .i64 it.version,.int .i64 xh,.slice WA it.queue.length wcap,.slice TA it.through.length tcap] 128)
 have hF1 : Fr (fun _ => False) tag tag w w1 := by rw [hw1]; exact ((((Fr.refl hok).al _).al _).al _).dr
 obtain ⟨b,hb⟩ : ∃ b,b = w.heap.size := ⟨_,rfl⟩
 obtain ⟨b1,hb1⟩ : ∃ b1,b1 = w.heap.size + 1 := ⟨_,rfl⟩
 obtain ⟨b2,hb2⟩ : ∃ b2,b2 = w.heap.size + 1 + 1 := ⟨_,rfl⟩
 rw [← hb2,← hb1,← hb]
 have hwb : w.heap.size ≤ b := by omega
 have hbb : b < b1 := by omega
 have hbc : b1 < b2 := by omega
 have HTB : Hid ((tag b).1 = 0 ∧ (tag b1).1 = 0 ∧ (tag b2).1 = 0) := Lib.hid ⟨tag_new hok (by omega),tag_new hok (by omega),tag_new hok (by omega)⟩
 have HM1 : Hid (w1.heap[b]? = some (.cells #[.int .i64 mk,.int .i64 ms,.int .i64 P.no,.int .i64 mp,.int .i64 (j : Int),.int .i64 mv] 49 (0,0))) := Lib.hid (by rw [hw1,hb]; exact hM1)
 have HZ1 : Hid (w1.heap[b1]? = some (.cells #[.slice none 0 0,.slice none 0 0] 41 (0,0))) := Lib.hid (by rw [hw1,hb1]; exact hZ1)
 have HX1 : Hid (w1.heap[b2]? = some (.cells #[.int .i64 it.version,.int .i64 xh,.slice WA it.queue.length wcap,.slice TA it.through.length tcap] 128 (0,0))) := Lib.hid (by rw [hw1,hb2]; exact hX1)
 have HF1 := Lib.hid hF1
 have hok1 := hF1.dom
 have HC2 := Lib.hid c2
 have HE0 := Lib.hid e0
 have HE1 := Lib.hid e1
 have HE2 := Lib.hid e2
 have HE3 := Lib.hid e3
 clear hw1 hM1 hZ1 hX1 hF1 hb hb1 hb2 c2 e0 e1 e2 e3
 have hhp : (xh == mp) = (it.held && it.lk.prop == mp) := by
  rw [HXH.out]
  cases it.held
  ·have : (-1 : Int) ≠ mp := by omega
   simpa using this
  ·simp
 have HHP := Lib.hid hhp
 clear hhp
 have m3 : w1.cell? ⟨b,3,none⟩ = some (.int .i64 mp) := cell_of HM1.out 3
 have m4 : w1.cell? ⟨b,4,none⟩ = some (.int .i64 (j : Int)) := cell_of HM1.out 4
 have x0 : w1.cell? ⟨b2,0,none⟩ = some (.int .i64 it.version) := cell_of HX1.out 0
 have xz0 : w1.frozen? ⟨b2,0,none⟩ = false := free_of HX1.out 0
 have x1 : w1.cell? ⟨b2,1,none⟩ = some (.int .i64 xh) := cell_of HX1.out 1
 have xz1 : w1.frozen? ⟨b2,1,none⟩ = false := free_of HX1.out 1
 have x3 : w1.cell? ⟨b2,3,none⟩ = some (.slice TA it.through.length tcap) := cell_of HX1.out 3
 have xz3 : w1.frozen? ⟨b2,3,none⟩ = false := free_of HX1.out 3
 have r0 : w1.cell? ⟨b1,0,none⟩ = some (.slice none 0 0) := cell_of HZ1.out 0
 have rz0 : w1.frozen? ⟨b1,0,none⟩ = false := free_of HZ1.out 0
 have r1 : w1.cell? ⟨b1,1,none⟩ = some (.slice none 0 0) := cell_of HZ1.out 1
 have rz1 : w1.frozen? ⟨b1,1,none⟩ = false := free_of HZ1.out 1
 cases hho : (xh == mp)
 ·have hho' : (xh != mp) = true := by simp only [bne,hho]; rfl
  have hh2 := hho
  rw [HHP.out] at hh2
  have hm : committedM P ⟨mk,ms,P.no,mp,(j : Int),mv⟩ j it = P := by
   rw [committedM,if_neg (by simpa using hh2)]
  have HMM := Lib.hid hm
  clear hm hh2
  go_wp2_with fail
  obtain ⟨wz,hwz⟩ : ∃ yy,yy = (w1.setCell ⟨b1,0,none⟩ (.slice none 0 0)).setCell ⟨b1,1,none⟩ (.slice none 0 0) := ⟨_,rfl⟩
  rw [← hwz]
  have hzz : wz.heap[b1]? = some (.cells #[.slice none 0 0,.slice none 0 0] 41 (0,0)) := by
   rw [hwz,Go.Ng.heap_setCell_same (Go.Ng.heap_setCell_same HZ1.out 0 _) 1 _]
   rfl
  have rr0 : wz.cell? ⟨b1,0,none⟩ = some (.slice none 0 0) := cell_of hzz 0
  have rr1 : wz.cell? ⟨b1,1,none⟩ = some (.slice none 0 0) := cell_of hzz 1
  refine bodyPost_ret (v:=.agg #[.slice none 0 0,.slice none 0 0]) (by simp [results,Try.results85,go_sem,rr0,rr1]) rfl ?_
  clear rr0 rr1
  rw [HMM.out]
  refine ⟨_,_,tag,rfl,by rw [HO.out]; exact Row.nil _ _ _ _ _,by rw [HC.out]; exact Row.nil _ _ _ _ _,?_,by rw [hwz]; exact ((HF1.out.up.scn (by omega) _ _).scn (by omega) _ _)⟩
  rw [hwz]
  exact H.out.fr ((HF1.out.up (S:=fun t => t.1 = 0)).trans (((Fr.refl hok1).sc b1 _ _ HTB.out.2.1).sc b1 _ _ HTB.out.2.1)) (fun r i => hk0)
 ·have hho' : (xh != mp) = false := by simp only [bne,hho]; rfl
  have hh2 := hho
  rw [HHP.out] at hh2
  simp only [Bool.and_eq_true,beq_iff_eq] at hh2
  have HMM := Lib.hid (committedM_eq (m := ⟨mk,ms,P.no,mp,(j : Int),mv⟩) HI.out HJ.out hh2.1 hh2.2)
  have HHH := Lib.hid hh2
  clear hh2
  have hl1 := lt_of_heap HX1.out
  go_upto_region 5 with fail
  obtain ⟨w2,hw2⟩ : ∃ x,x = (w1.alloc (.cells #[.int .i64 3,.int .i64 mp,.int .i64 (j : Int)] 106)).alloc (.cells #[.slice none 0 0,.slice (some ⟨w1.heap.size,0,none⟩) 1 1] 41) := ⟨_,rfl⟩
  rw [← hw2]
  obtain ⟨b3,hb3⟩ : ∃ x,x = w1.heap.size := ⟨_,rfl⟩
  obtain ⟨b4,hb4⟩ : ∃ x,x = w1.heap.size + 1 := ⟨_,rfl⟩
  have hbd : b2 < b3 := by omega
  have hbe : b3 < b4 := by omega
  obtain ⟨tag2,htag2⟩ : ∃ x,x = give tag b3 (R,2,0) := ⟨_,rfl⟩
  have hne : ∀ x,x ≠ b3 → tag2 x = tag x := fun x hx => by rw [htag2]; exact give_ne _ _ hx
  have HTB2 : Hid ((tag2 b).1 = 0 ∧ (tag2 b1).1 = 0 ∧ (tag2 b2).1 = 0 ∧ (tag2 b4).1 = 0) := Lib.hid ⟨by rw [hne b (by omega)]; exact HTB.out.1,by rw [hne b1 (by omega)]; exact HTB.out.2.1,by rw [hne b2 (by omega)]; exact HTB.out.2.2,by rw [hne b4 (by omega)]; exact tag_new hok (by omega)⟩
  have HF2 : Hid (Fr (fun _ => False) tag tag2 w w2) := Lib.hid (by rw [hw2,htag2,hb3]; exact (HF1.out.trans (Fr.give_alloc hok1 _ (R,2,0))).al _)
  have HCM2 : Hid (Row tag2 (R,2,0) 106 3 w2 (.slice (some ⟨b3,0,none⟩) 1 1) 1 (cames [⟨3,mp,(j : Int)⟩])) := Lib.hid (by rw [hw2,htag2,hb3]; exact (Row.came1 hok1 (R,2,0) ⟨3,mp,(j : Int)⟩).alloc _)
  have HO2 : Hid (w2.heap[b4]? = some (.cells #[.slice none 0 0,.slice (some ⟨b3,0,none⟩) 1 1] 41 (0,0))) := Lib.hid (by rw [hw2,hb4,hb3]; exact heap_alloc_at1 _ _ _)
  have HM2 := Lib.hid (heap_alloc_lt (heap_alloc_lt HM1.out (.cells #[.int .i64 3,.int .i64 mp,.int .i64 (j : Int)] 106)) (.cells #[.slice none 0 0,.slice (some ⟨w1.heap.size,0,none⟩) 1 1] 41))
  have HZ2 := Lib.hid (heap_alloc_lt (heap_alloc_lt HZ1.out (.cells #[.int .i64 3,.int .i64 mp,.int .i64 (j : Int)] 106)) (.cells #[.slice none 0 0,.slice (some ⟨w1.heap.size,0,none⟩) 1 1] 41))
  have HX2 := Lib.hid (heap_alloc_lt (heap_alloc_lt HX1.out (.cells #[.int .i64 3,.int .i64 mp,.int .i64 (j : Int)] 106)) (.cells #[.slice none 0 0,.slice (some ⟨w1.heap.size,0,none⟩) 1 1] 41))
  rw [← hw2] at HM2 HZ2 HX2
  rw [← hb4,← hb3]
  have hok2 := HF2.out.dom
  have HB3 := Lib.hid hb3
  clear hw2 hb3 hb4 htag2 hne m3 m4 x0 x1 x3 r0 r1 xz0 xz1 xz3 rz0 rz1 hl1
  have x0 : w2.cell? ⟨b2,0,none⟩ = some (.int .i64 it.version) := cell_of HX2.out 0
  have x1 : w2.cell? ⟨b2,1,none⟩ = some (.int .i64 xh) := cell_of HX2.out 1
  have xz0 := free_of HX2.out 0
  have xz1 := free_of HX2.out 1
  go_upto_region 7 with fail
  obtain ⟨w3,hw3⟩ : ∃ x,x = (w2.setCell ⟨b2,0,none⟩ (.int .i64 (it.version + 1))).setCell ⟨b2,1,none⟩ (.int .i64 (-1)) := ⟨_,rfl⟩
  rw [← hw3]
  have HF3 : Hid (Fr (fun _ => False) tag tag2 w w3) := Lib.hid (by rw [hw3]; exact (HF2.out.scn (by omega) _ _).scn (by omega) _ _)
  have HL3 : Hid (Fr (fun t => t.1 = 0) tag2 tag2 w2 w3) := Lib.hid (by rw [hw3]; exact (((Fr.refl hok2).sc b2 _ _ HTB2.out.2.2.1).sc b2 _ _ HTB2.out.2.2.1))
  have HX3 : Hid (w3.heap[b2]? = some (.cells #[.int .i64 (it.version + 1),.int .i64 (-1),.slice WA it.queue.length wcap,.slice TA it.through.length tcap] 128 (0,0))) := Lib.hid (by rw [hw3,Go.Ng.heap_setCell_same (Go.Ng.heap_setCell_same HX2.out 0 _) 1 _]; rfl)
  have HM3 := Lib.hid ((Go.Ng.heap_setCell_ne (show b ≠ b2 by omega) 1 (.int .i64 (-1))).trans ((Go.Ng.heap_setCell_ne (show b ≠ b2 by omega) 0 (.int .i64 (it.version + 1))).trans HM2.out))
  have HZ3 := Lib.hid ((Go.Ng.heap_setCell_ne (show b1 ≠ b2 by omega) 1 (.int .i64 (-1))).trans ((Go.Ng.heap_setCell_ne (show b1 ≠ b2 by omega) 0 (.int .i64 (it.version + 1))).trans HZ2.out))
  have HO3 := Lib.hid ((Go.Ng.heap_setCell_ne (show b4 ≠ b2 by omega) 1 (.int .i64 (-1))).trans ((Go.Ng.heap_setCell_ne (show b4 ≠ b2 by omega) 0 (.int .i64 (it.version + 1))).trans HO2.out))
  rw [← hw3] at HM3 HZ3 HO3
  clear hw3 x0 x1 xz0 xz1
  have x3 : w3.cell? ⟨b2,3,none⟩ = some (.slice TA it.through.length tcap) := cell_of HX3.out 3
  have m3 : w3.cell? ⟨b,3,none⟩ = some (.int .i64 mp) := cell_of HM3.out 3
  go_upto_region 8 with (
   at_builtin
   refine append_list rfl (.tmp 36) (.tmp 39) 22 rfl (by rfl) (by rfl) (HRT.out.fr (HF3.out.al _) (fun x => x)) (HF3.out.dom.alloc _) Try.underlying22 hi3 hy0 hy1 hy2 rfl (by decide) [.int .i64 mp] rfl (news_at (heap_alloc_at _ _)) (by simp [Value.oneCell']) (by decide) (by unfold maxLen; omega) (by omega) ?_
   intro g5 cap5 w4 tag4 hrow hfr
   have HX4 := Lib.hid (hfr.heap (heap_alloc_lt HX3.out _) (t0_ne HTB2.out.2.2.1 hk0))
   have v3 : w4.cell? ⟨b2,3,none⟩ = some (.slice TA it.through.length tcap) := cell_of HX4.out 3
   have vz3 := free_of HX4.out 3
   have HFR4 := Lib.hid hfr
   have HROW4 := Lib.hid hrow
   clear hrow hfr)
  obtain ⟨w5,hw5⟩ : ∃ x,x = w4.setCell ⟨b2,3,none⟩ (.slice (some ⟨g5,0,none⟩) (it.through.length + 1) cap5) := ⟨_,rfl⟩
  rw [← hw5]
  have hl3 : ∀ x y,w3.heap[x]? = some y → x < (w3.alloc (.cells #[.int .i64 mp] 3)).heap.size := fun x y hx => lt_of_heap (heap_alloc_lt hx _)
  have HTB4 : Hid ((tag4 b).1 = 0 ∧ (tag4 b1).1 = 0 ∧ (tag4 b2).1 = 0 ∧ (tag4 b4).1 = 0) := Lib.hid ⟨by rw [HFR4.out.same b (hl3 _ _ HM3.out)]; exact HTB2.out.1,by rw [HFR4.out.same b1 (hl3 _ _ HZ3.out)]; exact HTB2.out.2.1,by rw [HFR4.out.same b2 (hl3 _ _ HX3.out)]; exact HTB2.out.2.2.1,by rw [HFR4.out.same b4 (hl3 _ _ HO3.out)]; exact HTB2.out.2.2.2⟩
  have HL5 : Hid (Fr (fun t => t.1 = 0) tag4 tag4 w4 w5) := Lib.hid (by rw [hw5]; exact Fr.setCell HFR4.out.dom (a := ⟨b2,3,none⟩) HTB4.out.2.2.1 _)
  have hz5 : ∀ x y,x ≠ b2 → (tag2 x).1 = 0 → w3.heap[x]? = some y → w5.heap[x]? = some y := fun x y hx ht hy => by
   rw [hw5]
   exact (Go.Ng.heap_setCell_ne hx _ _).trans (HFR4.out.heap (heap_alloc_lt hy _) (t0_ne ht hk0))
  have HCS : Hid (CommS tag w k R j P.no mk ms mp mv it (.slice WA it.queue.length wcap) b b1 b2 b3 b4 0 tag4 (.slice (some ⟨g5,0,none⟩) (it.through.length + 1) cap5) (.slice none 0 0) w5) := Lib.hid {
   hM := hz5 _ _ (by omega) HTB2.out.1 HM3.out
   hZ := hz5 _ _ (by omega) HTB2.out.2.1 HZ3.out
   hX := by rw [hw5,Go.Ng.heap_setCell_same HX4.out 3 _]; rfl
   hO := hz5 _ _ (by omega) HTB2.out.2.2.2 HO3.out
   tb := HTB4.out
   thr := by have := HROW4.out.fr HL5.out hk0; simpa [ints] using this
   out := by show Row _ _ _ _ _ _ 0 (posts (refL P.no (j : Int) (List.take 0 it.queue))); exact Row.nil _ _ _ _ _
   came := (((HCM2.out.fr HL3.out hR).alloc (.cells #[.int .i64 mp] 3)).fr HFR4.out (by intro e; injection e with e _; exact hRk e)).fr HL5.out hR
   fr := by rw [hw5]; exact ((HF3.out.up.al _).trans (HFR4.out.mono (fun _ h => .inl h))).scn (by omega) _ _ }
  clear hw5 hz5 hl3 x3 m3 v3 vz3
  have hwl : w.heap.size ≤ b4 := by omega
  go_wp2_with fail
  go_loopw [7] (fun iv wr => ∃ (n : Nat),n ≤ it.queue.length ∧ iv = .int .i64 n ∧ ∃ (tagr : Nat → Tag) (tv ov : Value),Hid (CommS tag w k R j P.no mk ms mp mv it (.slice WA it.queue.length wcap) b b1 b2 b3 b4 n tagr tv ov wr)) (fun iv _ => it.queue.length - (intOf iv).toNat)
  case atStart => exact ⟨0,Nat.zero_le _,rfl,tag4,_,_,HCS⟩
  case round =>
   obtain ⟨n,hn,rfl,tagr,tv,ov,HS⟩ := hrel
   obtain ⟨TA2,tcap2,rfl,t3,t4⟩ := HS.out.thr.form
   unfold maxLen at t4
   have x2 : wr.cell? ⟨b2,2,none⟩ = some (.slice WA it.queue.length wcap) := cell_of HS.out.hX 2
   have hlr := lt_of_heap HS.out.hO
   have hlr2 := lt_of_heap HS.out.hX
   have hokr := HS.out.fr.dom
   by_cases hlt : n < it.queue.length
   ·obtain ⟨⟨ap,al⟩,hx⟩ : ∃ c,it.queue[n]? = some c := ⟨_,List.getElem?_eq_getElem hlt⟩
    obtain ⟨ab,aoff,acap,hv,_,_,hac⟩ := Rd.elem (enc := Asker.cells) (HRW.out.fr HS.out.fr (by simp)).rd (fun _ => rfl) (by decide) hx
    injection hv with hv _ hv2
    subst hv hv2
    have a0 : wr.cell? ⟨ab,aoff + n * 2,none⟩ = some (.int .i64 ap) := hac 0 _ rfl
    have a1 : wr.cell? ⟨ab,aoff + n * 2 + 1,none⟩ = some (.int .i64 al) := hac 1 _ rfl
    have x3 : wr.cell? ⟨b2,3,none⟩ = some (.slice TA2 (it.through.length + 1 + n) tcap2) := cell_of HS.out.hX 3
    have i5 : (0 : Int) ≤ (n : Int) := by omega
    have i6 : (n : Int) < (it.queue.length : Int) := by omega
    have HQX := Lib.hid hx
    clear hx hac
    obtain ⟨bh,hbh⟩ : ∃ x,x = wr.heap.size := ⟨_,rfl⟩
    have HBH := Lib.hid hbh
    have HHR := Lib.hid (heap_alloc_lt (heap_alloc_at wr (.cells #[.int .i64 ap,.int .i64 al] 173)) (.cells #[.int .i64 ap] 3))
    go_upto_region 13 with (
     at_builtin
     refine append_list rfl (.tmp 55) (.tmp 58) 22 rfl (by rfl) (by rfl) ((HS.out.thr.alloc _).alloc _) ((hokr.alloc _).alloc _) Try.underlying22 hi3 hy0 hy1 hy2 rfl (by decide) [.int .i64 ap] rfl (news_at (heap_alloc_at1 _ _ _)) (by simp [Value.oneCell']) (by decide) (by unfold maxLen; omega) (by omega) ?_
     intro g6 cap6 w5 tag5 hrow hfr
     have HX5 := Lib.hid (hfr.heap (heap_alloc_lt (heap_alloc_lt HS.out.hX _) _) (t0_ne HS.out.tb.2.2.1 hk0))
     have v3 : w5.cell? ⟨b2,3,none⟩ = some (.slice TA2 (it.through.length + 1 + n) tcap2) := cell_of HX5.out 3
     have vz3 := free_of HX5.out 3
     have HFR5 := Lib.hid hfr
     have HROW5 := Lib.hid hrow
     clear hrow hfr)
    obtain ⟨w6,hw6⟩ : ∃ x,x = w5.setCell ⟨b2,3,none⟩ (.slice (some ⟨g6,0,none⟩) (it.through.length + 1 + n + 1) cap6) := ⟨_,rfl⟩
    rw [← hw6]
    have hl5 : ∀ x y,wr.heap[x]? = some y → x < ((wr.alloc (.cells #[.int .i64 ap,.int .i64 al] 173)).alloc (.cells #[.int .i64 ap] 3)).heap.size := fun x y hx => lt_of_heap (heap_alloc_lt (heap_alloc_lt hx _) _)
    have HTB5 : Hid ((tag5 b).1 = 0 ∧ (tag5 b1).1 = 0 ∧ (tag5 b2).1 = 0 ∧ (tag5 b4).1 = 0) := Lib.hid ⟨by rw [HFR5.out.same b (hl5 _ _ HS.out.hM)]; exact HS.out.tb.1,by rw [HFR5.out.same b1 (hl5 _ _ HS.out.hZ)]; exact HS.out.tb.2.1,by rw [HFR5.out.same b2 (hl5 _ _ HS.out.hX)]; exact HS.out.tb.2.2.1,by rw [HFR5.out.same b4 (hl5 _ _ HS.out.hO)]; exact HS.out.tb.2.2.2⟩
    have hth : (tag5 bh).1 = 0 := by
     rw [HFR5.out.same bh (by rw [hbh]; exact lt_of_heap HHR.out),hbh]
     exact hokr.new
    have HTH := Lib.hid hth
    have HL6 : Hid (Fr (fun t => t.1 = 0) tag5 tag5 w5 w6) := Lib.hid (by rw [hw6]; exact Fr.setCell HFR5.out.dom (a := ⟨b2,3,none⟩) HTB5.out.2.2.1 _)
    have hz6 : ∀ x y,x ≠ b2 → (tagr x).1 = 0 → ((wr.alloc (.cells #[.int .i64 ap,.int .i64 al] 173)).alloc (.cells #[.int .i64 ap] 3)).heap[x]? = some y → w6.heap[x]? = some y := fun x y hx ht hy => by
     rw [hw6]
     exact (Go.Ng.heap_setCell_ne hx _ _).trans (HFR5.out.heap hy (t0_ne ht hk0))
    have HM6 := Lib.hid (hz6 _ _ (by omega) HS.out.tb.1 (heap_alloc_lt (heap_alloc_lt HS.out.hM _) _))
    have HZ6 := Lib.hid (hz6 _ _ (by omega) HS.out.tb.2.1 (heap_alloc_lt (heap_alloc_lt HS.out.hZ _) _))
    have HO6 := Lib.hid (hz6 _ _ (by omega) HS.out.tb.2.2.2 (heap_alloc_lt (heap_alloc_lt HS.out.hO _) _))
    have HH6 : Hid (w6.heap[bh]? = some (.cells #[.int .i64 ap,.int .i64 al] 173 (0,0))) := Lib.hid (by rw [hbh]; exact hz6 _ _ (by omega) hokr.new HHR.out)
    have HX6 : Hid (w6.heap[b2]? = some (.cells #[.int .i64 (it.version + 1),.int .i64 (-1),.slice (some ⟨ab,aoff,none⟩) it.queue.length wcap,.slice (some ⟨g6,0,none⟩) (it.through.length + 1 + n + 1) cap6] 128 (0,0))) := Lib.hid (by rw [hw6,Go.Ng.heap_setCell_same HX5.out 3 _]; rfl)
    have HF6 : Hid (Fr (fun t => t = (k,7,(j : Int)) ∨ t = (R,1,0)) tag tag5 w w6) := Lib.hid (by rw [hw6]; exact (((HS.out.fr.al _).al _).trans (HFR5.out.mono (fun _ h => .inl h))).scn (by omega) _ _)
    have hok6 := HF6.out.dom
    have HOUT6 : Hid (Row tag5 (R,1,0) 49 6 w6 ov n (posts (refL P.no j (it.queue.take n)))) := Lib.hid ((((HS.out.out.alloc _).alloc _).fr HFR5.out (by intro e; injection e with e _; exact hRk e)).fr HL6.out hR)
    have HCM6 : Hid (Row tag5 (R,2,0) 106 3 w6 (.slice (some ⟨b3,0,none⟩) 1 1) 1 (cames [⟨3,mp,j⟩])) := Lib.hid ((((HS.out.came.alloc _).alloc _).fr HFR5.out (by intro e; injection e with e _; exact hRk e)).fr HL6.out hR)
    have HTHR6 := Lib.hid (HROW5.out.fr HL6.out hk0)
    rw [← hbh]
    clear hw6 hl5 hth hz6 v3 vz3 x2 x3 a0 a1 hbh hlr hlr2
    obtain ⟨OA,ocap,rfl,o1,o2⟩ := HOUT6.out.form
    unfold maxLen at o2
    have u0 : w6.cell? ⟨b4,0,none⟩ = some (.slice OA n ocap) := cell_of HO6.out 0
    have m0 : w6.cell? ⟨b,0,none⟩ = some (.int .i64 mk) := cell_of HM6.out 0
    have m1 : w6.cell? ⟨b,1,none⟩ = some (.int .i64 ms) := cell_of HM6.out 1
    have m2 : w6.cell? ⟨b,2,none⟩ = some (.int .i64 P.no) := cell_of HM6.out 2
    have m3 : w6.cell? ⟨b,3,none⟩ = some (.int .i64 mp) := cell_of HM6.out 3
    have m4 : w6.cell? ⟨b,4,none⟩ = some (.int .i64 (j : Int)) := cell_of HM6.out 4
    have m5 : w6.cell? ⟨b,5,none⟩ = some (.int .i64 mv) := cell_of HM6.out 5
    have h0 : w6.cell? ⟨bh,0,none⟩ = some (.int .i64 ap) := cell_of HH6.out 0
    have h1 : w6.cell? ⟨bh,1,none⟩ = some (.int .i64 al) := cell_of HH6.out 1
    refine start_ (n:=12) (S:=fun w' => w'.cell? ⟨b4,0,none⟩ = some (.slice OA n ocap) ∧ w'.cell? ⟨b,0,none⟩ = some (.int .i64 mk) ∧ w'.cell? ⟨b,1,none⟩ = some (.int .i64 ms) ∧ w'.cell? ⟨b,2,none⟩ = some (.int .i64 P.no) ∧ w'.cell? ⟨b,3,none⟩ = some (.int .i64 mp) ∧ w'.cell? ⟨b,4,none⟩ = some (.int .i64 (j : Int)) ∧ w'.cell? ⟨b,5,none⟩ = some (.int .i64 mv) ∧ w'.cell? ⟨bh,0,none⟩ = some (.int .i64 ap) ∧ w'.cell? ⟨bh,1,none⟩ = some (.int .i64 al)) (ds := [11]) #[f_,f_,f_,f_,f_,f_,f_,f_,f_,f_,f_,f_] (by kernel_rfl) rfl rfl ⟨u0,m0,m1,m2,m3,m4,m5,h0,h1⟩ (fun hHeld => ?_)
    refine pv_ (i:=0) (N:=some 61) (v:=?_) (a':=?_) rfl rfl (by kernel_rfl) (fun _ _ _ h => h) (Or.inl ⟨by rfl,?_⟩) ?_ ?_
    rotate_left;intro w';go_simp;with_reducible rfl;rotate_left;simp only [Act.put,sA_,sB_,sC_,i64_w,i32_w];rfl
    refine pv_ (i:=3) (N:=some 64) (v:=?_) (a':=?_) rfl rfl (by kernel_rfl) (fun _ _ _ h => h) (Or.inl ⟨by rfl,?_⟩) ?_ ?_
    rotate_left;intro w';go_simp;with_reducible rfl;rotate_left;simp only [Act.put,sA_,sB_,sC_,i64_w,i32_w];rfl
    refine pv_ (i:=5) (N:=some 66) (v:=?_) (a':=?_) rfl rfl (by kernel_rfl) (fun _ _ _ h => h) (Or.inl ⟨by rfl,?_⟩) ?_ ?_
    rotate_left;intro w';go_simp;with_reducible rfl;rotate_left;simp only [Act.put,sA_,sB_,sC_,i64_w,i32_w];rfl
    refine tv_ (i:=1) (N:=some 62) (v:=?_) (a':=?_) rfl rfl (by kernel_rfl) (fun _ _ _ h => h) (Or.inl ⟨by rfl,?_⟩) hHeld ?_ ?_
    rotate_left;rintro w' ⟨s0,s1,s2,s3,s4,s5,s6,s7,s8⟩;go_simp;with_reducible rfl;rotate_left;simp only [Act.put,sA_,sB_,sC_,i64_w,i32_w];rfl
    refine tv_ (i:=2) (N:=some 63) (v:=?_) (a':=?_) rfl rfl (by kernel_rfl) (fun _ _ _ h => h) (Or.inl ⟨by rfl,?_⟩) hHeld ?_ ?_
    rotate_left;rintro w' ⟨s0,s1,s2,s3,s4,s5,s6,s7,s8⟩;go_simp;with_reducible rfl;rotate_left;simp only [Act.put,sA_,sB_,sC_,i64_w,i32_w];rfl
    refine tv_ (i:=4) (N:=some 65) (v:=?_) (a':=?_) rfl rfl (by kernel_rfl) (fun _ _ _ h => h) (Or.inl ⟨by rfl,?_⟩) hHeld ?_ ?_
    rotate_left;rintro w' ⟨s0,s1,s2,s3,s4,s5,s6,s7,s8⟩;go_simp;with_reducible rfl;rotate_left;simp only [Act.put,sA_,sB_,sC_,i64_w,i32_w];rfl
    refine tv_ (i:=6) (N:=some 67) (v:=?_) (a':=?_) rfl rfl (by kernel_rfl) (fun _ _ _ h => h) (Or.inl ⟨by rfl,?_⟩) hHeld ?_ ?_
    rotate_left;rintro w' ⟨s0,s1,s2,s3,s4,s5,s6,s7,s8⟩;go_simp;with_reducible rfl;rotate_left;simp only [Act.put,sA_,sB_,sC_,i64_w,i32_w];rfl
    refine one_ (i:=7) (N:=some 68) #[t_,t_,t_,t_,t_,t_,t_,t_,f_,f_,f_,f_] rfl rfl (by kernel_rfl) (by decide) (fun K hK => ?_)
    refine goes_ Try.func117 (by kernel_rfl) rfl #[.agg #[.int .i64 mk,.int .i64 ms,.int .i64 P.no,.int .i64 mp,.int .i64 (j : Int),.int .i64 mv],.int .i64 3,.int .i64 ap,.int .i64 al] (by rfl) rfl rfl (by simp only [List.map_toArray,List.map_cons,List.map_nil]; rfl) ?_
    with_reducible refine (rback_agg mk ms P.no mp (j : Int) mv 3 ap al _ (TagOk.drew hok6)).mono ?_
    rintro e w7 ⟨rfl,hF7⟩
    refine ⟨_,rfl,?_⟩
    have HF7 := Lib.hid hF7
    have hok7 := hF7.dom
    clear hF7
    refine hK.out _ _ ⟨(HF7.out.cellF hHeld.1),(HF7.out.cellF hHeld.2.1),(HF7.out.cellF hHeld.2.2.1),(HF7.out.cellF hHeld.2.2.2.1),(HF7.out.cellF hHeld.2.2.2.2.1),(HF7.out.cellF hHeld.2.2.2.2.2.1),(HF7.out.cellF hHeld.2.2.2.2.2.2.1),(HF7.out.cellF hHeld.2.2.2.2.2.2.2.1),(HF7.out.cellF hHeld.2.2.2.2.2.2.2.2)⟩ (fun hHeld => ?_)
    clear hK K
    refine norm_ (a':=?_) ?_ ?_
    rotate_left
    ·show Act.put _ (some 68) _ = _
     simp only [Act.put,sA_,sB_,sC_,i64_w,i32_w]
     rfl
    refine one_ (i:=8) (N:=some 69) #[t_,t_,t_,t_,t_,t_,t_,t_,t_,f_,f_,f_] rfl rfl (by kernel_rfl) (by decide) (fun K hK => ?_)
    refine value_ (w1:=?_) (v:=?_) (by rfl) rfl ?_ ?_
    rotate_left 2
    ·go_simp
     constructor
     ·rfl
     ·rfl
    refine hK.out _ _ ⟨(ca hHeld.1 _),(ca hHeld.2.1 _),(ca hHeld.2.2.1 _),(ca hHeld.2.2.2.1 _),(ca hHeld.2.2.2.2.1 _),(ca hHeld.2.2.2.2.2.1 _),(ca hHeld.2.2.2.2.2.2.1 _),(ca hHeld.2.2.2.2.2.2.2.1 _),(ca hHeld.2.2.2.2.2.2.2.2 _)⟩ (fun hHeld => ?_)
    clear hK K
    refine norm_ (a':=?_) ?_ ?_
    rotate_left
    ·show Act.put _ (some 69) _ = _
     simp only [Act.put,sA_,sB_,sC_,i64_w,i32_w]
     rfl
    refine one_ (i:=9) (N:=some 70) #[t_,t_,t_,t_,t_,t_,t_,t_,t_,t_,f_,f_] rfl rfl (by kernel_rfl) (by decide) (fun K hK => ?_)
    refine append_arm (by rfl) rfl (.tmp 62) (.tmp 69) 24 rfl (by rfl) (by rfl) ((HOUT6.out.drew.fr HF7.out (fun x => x)).alloc _) (hok7.alloc _) Try.underlying24 hi49 hp0 hp1 hp2 rfl (by decide) [.int .i64 3,.int .i64 P.no,.int .i64 al,.int .i64 ap,.int .i64 (j : Int),.int .i64 0] rfl (news_at (heap_alloc_at _ _)) (by simp [Value.oneCell']) (by decide) (by unfold maxLen; omega) (by omega) ?_
    intro g9 cap9 w9 tag9 hrow hfr
    have hz9 : ∀ x y,(tag5 x).1 = 0 → w6.heap[x]? = some y → w9.heap[x]? = some y := fun x y ht hy => hfr.heap (heap_alloc_lt (HF7.out.heap (show w6.drew.heap[x]? = some y from hy) (fun x => x)) _) (t0_ne ht hR)
    have HM9 := Lib.hid (hz9 _ _ HTB5.out.1 HM6.out)
    have HZ9 := Lib.hid (hz9 _ _ HTB5.out.2.1 HZ6.out)
    have HX9 := Lib.hid (hz9 _ _ HTB5.out.2.2.1 HX6.out)
    have HO9 := Lib.hid (hz9 _ _ HTB5.out.2.2.2 HO6.out)
    have HH9 := Lib.hid (hz9 _ _ HTH.out HH6.out)
    have HFR9 := Lib.hid hfr
    have HROW9 := Lib.hid hrow
    have q0 : w9.cell? ⟨b4,0,none⟩ = some (.slice OA n ocap) := cell_of HO9.out 0
    have qz0 := free_of HO9.out 0
    clear hrow hfr hz9
    refine hK.out _ _ ⟨q0,(cell_of HM9.out 0),(cell_of HM9.out 1),(cell_of HM9.out 2),(cell_of HM9.out 3),(cell_of HM9.out 4),(cell_of HM9.out 5),(cell_of HH9.out 0),(cell_of HH9.out 1)⟩ (fun hHeld => ?_)
    clear hK K
    refine norm_ (a':=?_) ?_ ?_
    rotate_left
    ·show Act.put _ (some 70) _ = _
     simp only [Act.put,sA_,sB_,sC_,i64_w,i32_w]
     rfl
    refine pv_ (i:=10) (N:=some 71) (v:=?_) (a':=?_) rfl rfl (by kernel_rfl) (fun _ _ _ h => h) (Or.inl ⟨by rfl,?_⟩) ?_ ?_
    rotate_left;intro w';go_simp;with_reducible rfl;rotate_left;simp only [Act.put,sA_,sB_,sC_,i64_w,i32_w];rfl
    refine last_ (i:=11) (N:=none) #[t_,t_,t_,t_,t_,t_,t_,t_,t_,t_,t_,t_] rfl rfl (by kernel_rfl) (by decide) (fun K hK => ?_)
    refine skip_ (w1:=?_) (by rfl) rfl ?_ ?_
    rotate_left
    ·go_simp
     rfl
    refine hK.out _ _ ?_
    clear hK K
    refine done_ (by kernel_rfl) ?_
    clear hHeld
    go_wp2_with fail
    go_roundw
    case rel =>
     have hl9 : ∀ x y,w6.heap[x]? = some y → x < (w7.alloc (.cells #[.int .i64 3,.int .i64 P.no,.int .i64 al,.int .i64 ap,.int .i64 (j : Int),.int .i64 0] 49)).heap.size := fun x y hx => lt_of_heap (heap_alloc_lt (HF7.out.heap (show w6.drew.heap[x]? = some y from hx) (fun x => x)) _)
     have htb : (tag9 b).1 = 0 ∧ (tag9 b1).1 = 0 ∧ (tag9 b2).1 = 0 ∧ (tag9 b4).1 = 0 := ⟨by rw [HFR9.out.same b (hl9 _ _ HM6.out)]; exact HTB5.out.1,by rw [HFR9.out.same b1 (hl9 _ _ HZ6.out)]; exact HTB5.out.2.1,by rw [HFR9.out.same b2 (hl9 _ _ HX6.out)]; exact HTB5.out.2.2.1,by rw [HFR9.out.same b4 (hl9 _ _ HO6.out)]; exact HTB5.out.2.2.2⟩
     have hLe : Fr (fun t => t.1 = 0) tag9 tag9 w9 (w9.setCell ⟨b4,0,none⟩ (.slice (some ⟨g9,0,none⟩) (n + 1) cap9)) := Fr.setCell HFR9.out.dom (a := ⟨b4,0,none⟩) htb.2.2.2 _
     refine ⟨n + 1,by omega,by go_num,tag9,.slice (some ⟨g6,0,none⟩) (it.through.length + 1 + n + 1) cap6,.slice (some ⟨g9,0,none⟩) (n + 1) cap9,Lib.hid {
      hM := (Go.Ng.heap_setCell_ne (by omega) _ _).trans HM9.out
      hZ := (Go.Ng.heap_setCell_ne (by omega) _ _).trans HZ9.out
      hX := (Go.Ng.heap_setCell_ne (by omega) _ _).trans HX9.out
      hO := by rw [Go.Ng.heap_setCell_same HO9.out 0 _]; rfl
      tb := htb
      thr := ?_
      out := ?_
      came := (((HCM6.out.drew.fr HF7.out (fun x => x)).alloc _).fr HFR9.out (by simp)).fr hLe hR
      fr := (((HF6.out.dr.trans HF7.out.up).al _).trans (HFR9.out.mono (fun _ h => .inr h))).scn hwl _ _ }⟩
     ·have := (((HTHR6.out.drew.fr HF7.out (fun x => x)).alloc (.cells #[.int .i64 3,.int .i64 P.no,.int .i64 al,.int .i64 ap,.int .i64 (j : Int),.int .i64 0] 49)).fr HFR9.out (by intro e; injection e with e _; exact hRk e.symm)).fr hLe hk0
      have ht : (it.queue.map (·.prop)).take (n + 1) = (it.queue.map (·.prop)).take n ++ [ap] := by
       rw [List.take_add_one,List.getElem?_map,HQX.out]; rfl
      rw [ht]
      have e2 : ints (it.through ++ [mp] ++ ((it.queue.map (·.prop)).take n ++ [ap])) = ints (it.through ++ [mp] ++ (it.queue.map (·.prop)).take n) ++ [.int .i64 ap] := by simp [ints]
      rw [e2]
      exact this
     ·have := HROW9.out.fr hLe hR
      have ht : it.queue.take (n + 1) = it.queue.take n ++ [⟨ap,al⟩] := by
       rw [List.take_add_one,HQX.out]; rfl
      rw [ht]
      have e2 : posts (refL P.no (j : Int) (it.queue.take n ++ [⟨ap,al⟩])) = posts (refL P.no (j : Int) (it.queue.take n)) ++ [.int .i64 3,.int .i64 P.no,.int .i64 al,.int .i64 ap,.int .i64 (j : Int),.int .i64 0] := by simp [posts,refL,Post.cells]
      rw [e2]
      exact this
    case measure => simp [intOf]; omega
   ·have : n = it.queue.length := by omega
    subst this
    have xz2 := free_of HS.out.hX 2
    go_upto_region 15 with fail
    obtain ⟨w3',hw3⟩ : ∃ x,x = wr.setCell ⟨b2,2,none⟩ (.slice none 0 0) := ⟨_,rfl⟩
    rw [← hw3]
    have HFE : Hid (Fr (fun t => t = (k,7,(j : Int)) ∨ t = (R,1,0)) tag tagr w w3') := Lib.hid (by rw [hw3]; exact HS.out.fr.scn (by omega) _ _)
    have HLE : Hid (Fr (fun t => t.1 = 0) tagr tagr wr w3') := Lib.hid (by rw [hw3]; exact Fr.setCell hokr (a := ⟨b2,2,none⟩) HS.out.tb.2.2.1 _)
    have HXE : Hid (w3'.heap[b2]? = some (.cells #[.int .i64 (it.version + 1),.int .i64 (-1),.slice none 0 0,.slice TA2 (it.through.length + 1 + it.queue.length) tcap2] 128 (0,0))) := Lib.hid (by rw [hw3,Go.Ng.heap_setCell_same HS.out.hX 2 _]; rfl)
    have HME := Lib.hid ((Go.Ng.heap_setCell_ne (show b ≠ b2 by omega) 2 (.slice none 0 0)).trans HS.out.hM)
    have HZE := Lib.hid ((Go.Ng.heap_setCell_ne (show b1 ≠ b2 by omega) 2 (.slice none 0 0)).trans HS.out.hZ)
    have HOE := Lib.hid ((Go.Ng.heap_setCell_ne (show b4 ≠ b2 by omega) 2 (.slice none 0 0)).trans HS.out.hO)
    rw [← hw3] at HME HZE HOE
    clear hw3 x2 xz2
    have HTBE : Hid ((tagr b).1 = 0 ∧ (tagr b1).1 = 0 ∧ (tagr b2).1 = 0) := Lib.hid ⟨HS.out.tb.1,HS.out.tb.2.1,HS.out.tb.2.2.1⟩
    have hib : tagr ib = (k,3,0) := (HFE.out.same ib his).trans HIT.out
    have hrow : Row tagr (k,3,0) 128 4 w3' (.slice (some ⟨ib,0,none⟩) its.length icap) its.length (its.flatMap RIt.cells) := H4.out.fr HFE.out (by simp [hRk,Ne.symm hRk])
    have d2 : w3'.cell? ⟨p,2,none⟩ = some (.slice (some ⟨ib,0,none⟩) its.length icap) := HFE.out.cell HC2.out (by (try rw [HPT.out]); simp [hRk,Ne.symm hRk])
    have m4 : w3'.cell? ⟨b,4,none⟩ = some (.int .i64 (j : Int)) := cell_of HME.out 4
    have mz4 : w3'.frozen? ⟨b,4,none⟩ = false := free_of HME.out 4
    have x0 : w3'.cell? ⟨b2,0,none⟩ = some (.int .i64 (it.version + 1)) := cell_of HXE.out 0
    have xz0 : w3'.frozen? ⟨b2,0,none⟩ = false := free_of HXE.out 0
    have x1 : w3'.cell? ⟨b2,1,none⟩ = some (.int .i64 (-1)) := cell_of HXE.out 1
    have xz1 : w3'.frozen? ⟨b2,1,none⟩ = false := free_of HXE.out 1
    have x2 : w3'.cell? ⟨b2,2,none⟩ = some (.slice none 0 0) := cell_of HXE.out 2
    have xz2 : w3'.frozen? ⟨b2,2,none⟩ = false := free_of HXE.out 2
    have x3 : w3'.cell? ⟨b2,3,none⟩ = some (.slice TA2 (it.through.length + 1 + it.queue.length) tcap2) := cell_of HXE.out 3
    have xz3 : w3'.frozen? ⟨b2,3,none⟩ = false := free_of HXE.out 3
    have y0 : w3'.cell? ⟨ib,j * 4,none⟩ = some (.int .i64 it.version) := HFE.out.cell HE0.out (by (try rw [HIT.out]); simp [hRk,Ne.symm hRk])
    have y1 : w3'.cell? ⟨ib,j * 4 + 1,none⟩ = some (.int .i64 xh) := HFE.out.cell HE1.out (by (try rw [HIT.out]); simp [hRk,Ne.symm hRk])
    have y2 : w3'.cell? ⟨ib,j * 4 + 2,none⟩ = some (.slice WA it.queue.length wcap) := HFE.out.cell HE2.out (by (try rw [HIT.out]); simp [hRk,Ne.symm hRk])
    have y3 : w3'.cell? ⟨ib,j * 4 + 3,none⟩ = some (.slice TA it.through.length tcap) := HFE.out.cell HE3.out (by (try rw [HIT.out]); simp [hRk,Ne.symm hRk])
    have hz : ∀ o,w3'.frozen? ⟨ib,o,none⟩ = false := fun o => Row.free' hrow (by rw [rits_len]; omega)
    have z0 := hz (j * 4)
    have z1 := hz (j * 4 + 1)
    have z2 := hz (j * 4 + 2)
    have z3 := hz (j * 4 + 3)
    have HROW := Lib.hid hrow
    clear hz hrow
    refine start_ (n:=9) (S:=fun w' => w'.cell? ⟨p,2,none⟩ = some (.slice (some ⟨ib,0,none⟩) its.length icap) ∧ w'.cell? ⟨b,4,none⟩ = some (.int .i64 (j : Int)) ∧ w'.cell? ⟨b2,0,none⟩ = some (.int .i64 (it.version + 1)) ∧ w'.cell? ⟨b2,1,none⟩ = some (.int .i64 (-1)) ∧ w'.cell? ⟨b2,2,none⟩ = some (.slice none 0 0) ∧ w'.cell? ⟨b2,3,none⟩ = some (.slice TA2 (it.through.length + 1 + it.queue.length) tcap2)) (ds := [8]) #[f_,f_,f_,f_,f_,f_,f_,f_,f_] (by kernel_rfl) rfl rfl ⟨d2,m4,x0,x1,x2,x3⟩ (fun hHeld => ?_)
    refine pv_ (i:=0) (N:=some 73) (v:=?_) (a':=?_) rfl rfl (by kernel_rfl) (fun _ _ _ h => h) (Or.inl ⟨by rfl,?_⟩) ?_ ?_
    rotate_left;intro w';go_simp;with_reducible rfl;rotate_left;simp only [Act.put,sA_,sB_,sC_,i64_w,i32_w];rfl
    refine pv_ (i:=1) (N:=some 74) (v:=?_) (a':=?_) rfl rfl (by kernel_rfl) (fun _ _ _ h => h) (Or.inl ⟨by rfl,?_⟩) ?_ ?_
    rotate_left;intro w';go_simp;with_reducible rfl;rotate_left;simp only [Act.put,sA_,sB_,sC_,i64_w,i32_w];rfl
    refine pv_ (i:=2) (N:=some 75) (v:=?_) (a':=?_) rfl rfl (by kernel_rfl) (fun _ _ _ h => h) (Or.inl ⟨by rfl,?_⟩) ?_ ?_
    rotate_left;intro w';go_simp;with_reducible rfl;rotate_left;simp only [Act.put,sA_,sB_,sC_,i64_w,i32_w];rfl
    refine pv_ (i:=4) (N:=some 77) (v:=?_) (a':=?_) rfl rfl (by kernel_rfl) (fun _ _ _ h => h) (Or.inl ⟨by rfl,?_⟩) ?_ ?_
    rotate_left;intro w';go_simp;with_reducible rfl;rotate_left;simp only [Act.put,sA_,sB_,sC_,i64_w,i32_w];rfl
    refine tv_ (i:=3) (N:=some 76) (v:=?_) (a':=?_) rfl rfl (by kernel_rfl) (fun _ _ _ h => h) (Or.inl ⟨by rfl,?_⟩) hHeld ?_ ?_
    rotate_left;rintro w' ⟨s0,s1,s2,s3,s4,s5⟩;go_simp;with_reducible rfl;rotate_left;simp only [Act.put,sA_,sB_,sC_,i64_w,i32_w];rfl
    refine tv_ (i:=5) (N:=some 78) (v:=?_) (a':=?_) rfl rfl (by kernel_rfl) (fun _ _ _ h => h) (Or.inl ⟨by rfl,?_⟩) hHeld ?_ ?_
    rotate_left;rintro w' ⟨s0,s1,s2,s3,s4,s5⟩;go_simp;with_reducible rfl;rotate_left;simp only [Act.put,sA_,sB_,sC_,i64_w,i32_w];rfl
    refine tv_ (i:=6) (N:=some 79) (v:=?_) (a':=?_) rfl rfl (by kernel_rfl) (fun _ _ _ h => h) (Or.inl ⟨by rfl,?_⟩) hHeld ?_ ?_
    rotate_left;rintro w' ⟨s0,s1,s2,s3,s4,s5⟩;go_simp;with_reducible rfl;rotate_left;simp only [Act.put,sA_,sB_,sC_,i64_w,i32_w];rfl
    refine pv_ (i:=7) (N:=some 80) (v:=?_) (a':=?_) rfl rfl (by kernel_rfl) (fun _ _ _ h => h) (Or.inl ⟨by rfl,?_⟩) ?_ ?_
    rotate_left;intro w';go_simp;with_reducible rfl;rotate_left;simp only [Act.put,sA_,sB_,sC_,i64_w,i32_w];rfl
    refine last_ (i:=8) (N:=none) #[t_,t_,t_,t_,t_,t_,t_,t_,t_] rfl rfl (by kernel_rfl) (by decide) (fun K hK => ?_)
    refine skip_ (w1:=?_) (by rfl) rfl ?_ ?_
    rotate_left
    ·go_simp
     rfl
    refine hK.out _ _ ?_
    clear hK K
    refine done_ (by kernel_rfl) ?_
    clear hHeld
    obtain ⟨w8,hW⟩ : ∃ x,x = ((((w3'.setCell ⟨ib,j * 4,none⟩ (.int .i64 (it.version + 1))).setCell ⟨ib,j * 4 + 1,none⟩ (.int .i64 (-1))).setCell ⟨ib,j * 4 + 2,none⟩ (.slice none 0 0)).setCell ⟨ib,j * 4 + 3,none⟩ (.slice TA2 (it.through.length + 1 + it.queue.length) tcap2)).drew := ⟨_,rfl⟩
    rw [← hW]
    have hF : Fr (fun t => (t = (k,7,(j : Int)) ∨ t = (R,1,0)) ∨ t = (k,3,0)) tag tagr w w8 := by
     rw [hW]
     exact (((((HFE.out.mono (fun _ h => .inl h)).sc ib _ _ (.inr hib)).sc ib _ _ (.inr hib)).sc ib _ _ (.inr hib)).sc ib _ _ (.inr hib)).dr
    have hG : Fr (fun t => t = (k,3,0)) tagr tagr w3' w8 := by
     rw [hW]
     exact (((((Fr.refl HFE.out.dom).sc ib _ _ hib).sc ib _ _ hib).sc ib _ _ hib).sc ib _ _ hib).dr
    have hrow2 : Row tagr (k,3,0) 128 4 w8 (.slice (some ⟨ib,0,none⟩) its.length icap) its.length ((its.set j ⟨(it.version + 1),(-1),.slice none 0 0,.slice TA2 (it.through.length + 1 + it.queue.length) tcap2⟩).flatMap RIt.cells) := by
     rw [hW,← rits_set its j ⟨(it.version + 1),(-1),.slice none 0 0,.slice TA2 (it.through.length + 1 + it.queue.length) tcap2⟩ hil]
     have hl := rits_len its
     exact ((((HROW.out.put_cell (j:=j * 4) (by omega) _).put_cell (j:=j * 4 + 1) (by simp only [List.length_set]; omega) _).put_cell (j:=j * 4 + 2) (by simp only [List.length_set]; omega) _).put_cell (j:=j * 4 + 3) (by simp only [List.length_set]; omega) _).drew
    have HFE4 := Lib.hid hF
    have HGE4 := Lib.hid hG
    have HROWE4 := Lib.hid hrow2
    have HME4 := Lib.hid (hG.heap HME.out (t0_ne HTBE.out.1 hk0))
    have HZE4 := Lib.hid (hG.heap HZE.out (t0_ne HTBE.out.2.1 hk0))
    have hokE4 := hF.dom
    clear hW hF hG hrow2 hib d2 m4 mz4 x0 xz0 x1 xz1 x2 xz2 x3 xz3 y0 y1 y2 y3 z0 z1 z2 z3
    obtain ⟨OA,ocap,rfl,o1,o2⟩ := HS.out.out.form
    have HOE4 := Lib.hid (HGE4.out.heap HOE.out (t0_ne HS.out.tb.2.2.2 hk0))
    have u0 : w8.cell? ⟨b4,0,none⟩ = some (.slice OA it.queue.length ocap) := cell_of HOE4.out 0
    have u1 : w8.cell? ⟨b4,1,none⟩ = some (.slice (some ⟨b3,0,none⟩) 1 1) := cell_of HOE4.out 1
    have r0 : w8.cell? ⟨b1,0,none⟩ = some (.slice none 0 0) := cell_of HZE4.out 0
    have r1 : w8.cell? ⟨b1,1,none⟩ = some (.slice none 0 0) := cell_of HZE4.out 1
    have rz0 := free_of HZE4.out 0
    have rz1 := free_of HZE4.out 1
    go_wp2_with fail
    obtain ⟨wz,hwz⟩ : ∃ yy,yy = (w8.setCell ⟨b1,0,none⟩ (.slice OA it.queue.length ocap)).setCell ⟨b1,1,none⟩ (.slice (some ⟨b3,0,none⟩) 1 1) := ⟨_,rfl⟩
    rw [← hwz]
    have hzz : wz.heap[b1]? = some (.cells #[.slice OA it.queue.length ocap,.slice (some ⟨b3,0,none⟩) 1 1] 41 (0,0)) := by
     rw [hwz,Go.Ng.heap_setCell_same (Go.Ng.heap_setCell_same HZE4.out 0 _) 1 _]
     rfl
    have rr0 : wz.cell? ⟨b1,0,none⟩ = some (.slice OA it.queue.length ocap) := cell_of hzz 0
    have rr1 : wz.cell? ⟨b1,1,none⟩ = some (.slice (some ⟨b3,0,none⟩) 1 1) := cell_of hzz 1
    refine bodyPost_ret (v:=.agg #[.slice OA it.queue.length ocap,.slice (some ⟨b3,0,none⟩) 1 1]) (by simp [results,Try.results85,go_sem,rr0,rr1]) rfl ?_
    clear rr0 rr1
    rw [HMM.out]
    have hP : RPRep tagr k w8 p (P.setItem j (commIt it mp)) := H.out.set_item HJ.out HFE4.out (fun t ht => by rcases ht with (ht | ht) | ht <;> first | exact .inl ht | exact .inr (.inr (.inl ht)) | exact .inr (.inr (.inr (by rw [ht]; exact hRk)))) H1.out HL.out H5.out (x' := ⟨it.version + 1,-1,.slice none 0 0,.slice TA2 (it.through.length + 1 + it.queue.length) tcap2⟩) HROWE4.out
     ⟨rfl,rfl,ORow.nil _ _ _ _,by
      have := (HS.out.thr.fr HLE.out hk0).fr HGE4.out (by simp)
      rw [List.take_of_length_le (by simp)] at this
      have e : (commIt it mp).through.length = it.through.length + 1 + it.queue.length := by simp [commIt]; omega
      rw [e]
      exact this⟩
    have hLz : Fr (fun t => t.1 = 0) tagr tagr w8 wz := by rw [hwz]; exact ((Fr.refl hokE4).sc b1 _ _ HTBE.out.2.1).sc b1 _ _ HTBE.out.2.1
    refine ⟨_,_,tagr,rfl,?_,?_,(hP.fr hLz (fun r i => hk0)).congr rfl rfl rfl rfl,by rw [hwz]; exact (((HFE4.out.scn (by omega) _ _).scn (by omega) _ _).mono (fun t h => by rcases h with (h | h) | h <;> first | (left; rw [h]; done) | (right; rw [h]; done)))⟩
    ·show Row _ _ _ _ _ _ (P.out ++ refL P.no (j : Int) it.queue).length (posts (P.out ++ refL P.no (j : Int) it.queue))
     rw [HO.out]
     have := ((HS.out.out.fr HLE.out hR).fr HGE4.out (by intro e; injection e with e _; exact hRk e)).fr hLz hR
     rw [List.take_length] at this
     have e : (([] : List Post) ++ refL P.no (j : Int) it.queue).length = it.queue.length := by simp [refL]
     rw [e]
     exact this
    ·show Row _ _ _ _ _ _ (P.came ++ [_]).length (cames (P.came ++ [_]))
     rw [HC.out]
     exact ((HS.out.came.fr HLE.out hR).fr HGE4.out (by intro e; injection e with e _; exact hRk e)).fr hLz hR
end
end Go.Proofs.Ytclkokkppgchfaa
