/- A part of the proof: texts of this session, joined. -/
import Derived.Test.YtclkokkppgchfaaNegoPlacesOwn11
import Derived.Test.YtclkokkppgchfaaShort
set_option linter.unusedSimpArgs false
set_option linter.unusedVariables false
set_option maxHeartbeats 6400000
set_option maxRecDepth 100000
namespace Go.Proofs.Ytclkokkppgchfaa
open Go.RowKit Go.Ng Go.Proofs.YtclkokkppgchfaaW.PrintLast
structure ItOk (it : ItemM) : Prop where
 qnd : (it.queue.map (·.prop)).Nodup
 qt : ∀ a ∈ it.queue,a.prop ∉ it.through
 hold : it.held = true → it.lk.prop ∉ it.through ∧ (∀ a ∈ it.queue,a.prop ≠ it.lk.prop) ∧ 0 ≤ it.lk.prop
 ql : it.queue.length ≤ 100000
 tl : it.through.length ≤ 100000
 ver : 0 ≤ it.version ∧ it.version ≤ 1000000000
theorem _root_.Go.Ng.Fr.scn {S : Tag → Prop} {tag tag' : Nat → Tag} {w w' : World} (h : Fr S tag tag' w w') {b : Nat} (hb : w.heap.size ≤ b) (o : Nat) (v : Value) : Fr S tag tag' w (w'.setCell ⟨b,o,none⟩ v) :=
 ⟨h.os,h.tape,h.output,by simpa using h.size,h.same,fun c hc hs => by rw [Go.Ng.heap_setCell_ne (by omega)]; exact h.block c hc hs,h.dom.setCell _ _⟩
theorem t0_ne {t : Tag} {k r : Nat} {i : Int} (h : t.1 = 0) (hk : k ≠ 0) : t ≠ (k,r,i) := by rintro rfl; exact hk h
theorem tag_new {tag : Nat → Tag} {w : World} {b : Nat} (hok : TagOk tag w) (hb : w.heap.size ≤ b) : (tag b).1 = 0 := Decidable.byContradiction fun h => by have := hok b h; omega
theorem heap3 (w : World) (x y z : Obj) : (((w.alloc x).alloc y).alloc z).drew.heap[w.heap.size]? = some x ∧ (((w.alloc x).alloc y).alloc z).drew.heap[w.heap.size + 1]? = some y ∧ (((w.alloc x).alloc y).alloc z).drew.heap[w.heap.size + 1 + 1]? = some z := by
 refine ⟨heap_alloc_lt (heap_alloc_lt (heap_alloc_at w x) y) z,heap_alloc_lt (heap_alloc_at1 w x y) z,?_⟩
 have := heap_alloc_at ((w.alloc x).alloc y) z
 rw [World.size_alloc,World.size_alloc] at this
 exact this
theorem Try.info173 : (Try.prog.info? 173).map (fun i => (i.zero,i.size,i.bytes)) = some (some (.agg #[.int .i64 0,.int .i64 0]),2,16) := by kernel_rfl
section
variable {S : Tag → Prop} {tag tag' : Nat → Tag} {w w' : World} {k p R : Nat} {P P' : PlaceM}
theorem RPRep.congr (h : RPRep tag k w p P) (h1 : P'.no = P.no) (h2 : P'.sites = P.sites) (h3 : P'.items = P.items) (h4 : P'.props = P.props) : RPRep tag k w p P' := by
 obtain ⟨a,b,c,d,e,f,g,i⟩ := P
 obtain ⟨a',b',c',d',e',f',g',i'⟩ := P'
 simp only at h1 h2 h3 h4
 subst h1 h2 h3 h4
 exact ⟨h.k0,h.ptr,h.cells⟩
def ROut (R k p : Nat) (tag : Nat → Tag) (w : World) (P' : PlaceM) (e : Ending) (w' : World) : Prop :=
 ∃ ov cv tag',e = .returned (.agg #[ov,cv]) ∧ Row tag' (R,1,0) 49 6 w' ov P'.out.length (posts P'.out) ∧ Row tag' (R,2,0) 106 3 w' cv P'.came.length (cames P'.came) ∧ RPRep tag' k w' p P' ∧ Fr (fun t => t.1 = k ∨ t.1 = R) tag tag' w w'
theorem rback_agg {tag : Nat → Tag} (mk ms md mp mi mv k p t : Int) (w : World) (hok : TagOk tag w) :
  Calls Try.prog 117 #[.agg #[.int .i64 mk,.int .i64 ms,.int .i64 md,.int .i64 mp,.int .i64 mi,.int .i64 mv],.int .i64 k,.int .i64 p,.int .i64 t] w fun e w' => e = .returned (.agg #[.int .i64 k,.int .i64 md,.int .i64 t,.int .i64 p,.int .i64 mi,.int .i64 0]) ∧ Fr (fun _ => False) tag tag w w' :=
 rback_ok ⟨mk,ms,md,mp,mi,mv⟩ k p t w hok
theorem post_end {tag0 : Nat → Tag} {w0 w7 : World} {b1 : Nat} {o0 o1 : Value} (hF : Fr S tag0 tag w0 w7) (h0 : w0.heap.size ≤ b1) (hz : w7.heap[b1]? = some (.cells #[o0,o1] 41 (0,0))) (T : Tag) (m : Post) (cv : Value) (htb : (tag b1).1 = 0) {wz : World}
  (hwz : wz = ((w7.setCell ⟨b1,0,none⟩ (.slice (some ⟨w7.heap.size,0,none⟩) 1 1)).setCell ⟨b1,1,none⟩ cv).alloc (.cells m.cells.toArray 49)) :
  Fr S tag0 (give tag w7.heap.size T) w0 wz ∧ Row (give tag w7.heap.size T) T 49 6 wz (.slice (some ⟨w7.heap.size,0,none⟩) 1 1) 1 (posts [m]) ∧
   Fr (fun t => t.1 = 0) tag (give tag w7.heap.size T) w7 wz ∧ wz.heap[b1]? = some (.cells #[.slice (some ⟨w7.heap.size,0,none⟩) 1 1,cv] 41 (0,0)) := by
 subst hwz
 have hs : ((w7.setCell ⟨b1,0,none⟩ (.slice (some ⟨w7.heap.size,0,none⟩) 1 1)).setCell ⟨b1,1,none⟩ cv).heap.size = w7.heap.size := by simp
 have h1 := (hF.scn h0 0 (.slice (some ⟨w7.heap.size,0,none⟩) 1 1)).scn h0 1 cv
 have h2 : Fr (fun t => t.1 = 0) tag tag w7 ((w7.setCell ⟨b1,0,none⟩ (.slice (some ⟨w7.heap.size,0,none⟩) 1 1)).setCell ⟨b1,1,none⟩ cv) := ((Fr.refl hF.dom).sc b1 _ _ htb).sc b1 _ _ htb
 have g1 := h1.trans (Fr.give_alloc h1.dom (.cells m.cells.toArray 49) T)
 have g2 := h2.trans (Fr.give_alloc h2.dom (.cells m.cells.toArray 49) T)
 have g3 := Row.post1 h1.dom T m
 rw [hs] at g1 g2 g3
 refine ⟨g1,g3,g2,heap_alloc_lt ?_ _⟩
 rw [Go.Ng.heap_setCell_same (Go.Ng.heap_setCell_same hz 0 _) 1 _]
 rfl
theorem rin_val {v : Value} (l : List Int) (p : Int) (w : World) (r : Bool) (hr' : decide (p ∈ l) = r) (hr : Rd 1 w v l.length (ints l)) (hl : l.length ≤ 1000000) :
  Calls Try.prog 115 #[v,.int .i64 p] w fun e w' => e = .returned (.bool r) ∧ w' = w := hr' ▸ rin_ok l p w hr hl
theorem rwaits_val {v : Value} (l : List Asker) (p : Int) (w : World) (r : Bool) (hr' : l.any (isProp p) = r) (hr : Rd 2 w v l.length (askers l)) (hl : l.length ≤ 1000000) :
  Calls Try.prog 116 #[v,.int .i64 p] w fun e w' => e = .returned (.bool r) ∧ w' = w := hr' ▸ rwaits_ok l p w hr hl
theorem Row.free' {tag : Nat → Tag} {t : Tag} {E sz : Nat} {w : World} {b n cap j : Nat} {ks : List Value} (h : Row tag t E sz w (.slice (some ⟨b,0,none⟩) n cap) n ks) (hj : 0 < ks.length) : w.frozen? ⟨b,j,none⟩ = false := by
 obtain ⟨b',cap',cur,hv,_,hh,_⟩ := h.block hj
 injection hv with hv _ _
 injection hv with hv
 injection hv with hv
 subst hv
 exact free_of hh j
theorem rasked_ok {j : Nat} {it : ItemM} (m : Post) (h : RPRep tag k w p P) (hok : TagOk tag w) (hR : R ≠ 0) (hRk : R ≠ k) (hj : P.items[j]? = some (some it)) (hmj : m.item = j) (hd : m.dst = P.no) (hpr : 0 ≤ m.prop) (hI : ItOk it)
  (ho : P.out = []) (hc : P.came = []) :
  Calls Try.prog 82 #[.pointer (some ⟨p,0,none⟩),Post.val m] w (ROut R k p tag w (askedM P m j it)) := by
 obtain ⟨i49,hi49,hp0,hp1,hp2⟩ := info_parts Try.info49
 obtain ⟨i3,hi3,hy0,hy1,hy2⟩ := info_parts Try.info3
 obtain ⟨i173,hi173,hq0,hq1,hq2⟩ := info_parts Try.info173
 obtain ⟨mk,ms,md,mp,mi,mv⟩ := m
 simp only at hmj hd hpr
 subst hmj hd
 obtain ⟨av,iv,pv,h1,h2,⟨its,h3,h4,h5⟩,hprs⟩ := h.cells
 obtain ⟨IA,icap,rfl,q1,q2⟩ := h4.form
 unfold maxLen at q2
 have hjl := (List.getElem?_eq_some_iff.1 hj).1
 obtain ⟨⟨xv,xh,xw,xt⟩,hx⟩ : ∃ c,its[j]? = some c := ⟨_,List.getElem?_eq_getElem (by omega)⟩
 have hri : RItem tag k w j it _ := h5 j _ _ hj hx
 obtain ⟨ib,hib,hit,his,hce⟩ := Row.elem (enc := RIt.cells) h4 (fun _ => rfl) (by decide) hx
 subst hib
 have c2 : w.cell? ⟨p,2,none⟩ = some (.slice (some ⟨ib,0,none⟩) its.length icap) := cell_of h1 2
 have e0 : w.cell? ⟨ib,j * 4,none⟩ = some (.int .i64 xv) := hce 0 _ rfl
 have e1 : w.cell? ⟨ib,j * 4 + 1,none⟩ = some (.int .i64 xh) := hce 1 _ rfl
 have e2 : w.cell? ⟨ib,j * 4 + 2,none⟩ = some xw := hce 2 _ rfl
 have e3 : w.cell? ⟨ib,j * 4 + 3,none⟩ = some xt := hce 3 _ rfl
 obtain ⟨rv,rh,rw',rt⟩ := hri
 simp only at rv rh rw' rt
 subst rv
 obtain ⟨WA,wcap,rfl,s1,s2⟩ := rw'.slice
 obtain ⟨TA,tcap,rfl,t1,t2⟩ := rt.form
 unfold maxLen at s2 t2
 have i1 : (0 : Int) ≤ (j : Int) := by omega
 have i2 : (j : Int) < (its.length : Int) := by omega
 have hil : j < its.length := by omega
 have hpl := lt_of_heap h1
 have H := Lib.hid h
 have HPT := Lib.hid h.ptr
 have HJ := Lib.hid hj
 have HX := Lib.hid hx
 have H1 := Lib.hid h1
 have H4 := Lib.hid h4
 have H5 := Lib.hid h5
 have HRW := Lib.hid rw'
 have HRT := Lib.hid rt
 have HI := Lib.hid hI
 have HO := Lib.hid ho
 have HC := Lib.hid hc
 have HL := Lib.hid h3
 have HXH := Lib.hid rh
 have hql := hI.ql
 have htl := hI.tl
 have hv0 := hI.ver.1
 have hv1 := hI.ver.2
 have hk0 := h.k0
 have HIT := Lib.hid hit
 clear h h1 h2 h3 h4 h5 hprs hj hx hce rw' rt hI ho hc hit rh
 unfold Post.val
 go_enter Try.func82,Try.ntmps82
 go_wp2_with fail
 refine start_ (n:=10) (S:=fun w' => w'.cell? ⟨p,2,none⟩ = some (.slice (some ⟨ib,0,none⟩) its.length icap) ∧ w'.cell? ⟨w.heap.size,4,none⟩ = some (.int .i64 (j : Int)) ∧ w'.cell? ⟨ib,j * 4,none⟩ = some (.int .i64 it.version) ∧ w'.cell? ⟨ib,j * 4 + 1,none⟩ = some (.int .i64 xh) ∧ w'.cell? ⟨ib,j * 4 + 2,none⟩ = some (.slice WA it.queue.length wcap) ∧ w'.cell? ⟨ib,j * 4 + 3,none⟩ = some (.slice TA it.through.length tcap)) (ds := [9]) #[f_,f_,f_,f_,f_,f_,f_,f_,f_,f_] (by kernel_rfl) rfl rfl ⟨ca (ca c2 _) _,by go_simp,ca (ca e0 _) _,ca (ca e1 _) _,ca (ca e2 _) _,ca (ca e3 _) _⟩ (fun hHeld => ?_)
 refine pv_ (i:=0) (N:=some 6) (v:=?_) (a':=?_) rfl rfl (by kernel_rfl) (fun _ _ _ h => h) (Or.inl ⟨by rfl,?_⟩) ?_ ?_
 rotate_left;intro w';go_simp;with_reducible rfl;rotate_left;simp only [Act.put,sA_,sB_,sC_,i64_w,i32_w];rfl
 refine pv_ (i:=1) (N:=some 7) (v:=?_) (a':=?_) rfl rfl (by kernel_rfl) (fun _ _ _ h => h) (Or.inl ⟨by rfl,?_⟩) ?_ ?_
 rotate_left;intro w';go_simp;with_reducible rfl;rotate_left;simp only [Act.put,sA_,sB_,sC_,i64_w,i32_w];rfl
 refine pv_ (i:=2) (N:=some 8) (v:=?_) (a':=?_) rfl rfl (by kernel_rfl) (fun _ _ _ h => h) (Or.inl ⟨by rfl,?_⟩) ?_ ?_
 rotate_left;intro w';go_simp;with_reducible rfl;rotate_left;simp only [Act.put,sA_,sB_,sC_,i64_w,i32_w];rfl
 refine pv_ (i:=4) (N:=some 10) (v:=?_) (a':=?_) rfl rfl (by kernel_rfl) (fun _ _ _ h => h) (Or.inl ⟨by rfl,?_⟩) ?_ ?_
 rotate_left;intro w';go_simp;with_reducible rfl;rotate_left;simp only [Act.put,sA_,sB_,sC_,i64_w,i32_w];rfl
 refine tv_ (i:=3) (N:=some 9) (v:=?_) (a':=?_) rfl rfl (by kernel_rfl) (fun _ _ _ h => h) (Or.inl ⟨by rfl,?_⟩) hHeld ?_ ?_
 rotate_left;rintro w' ⟨s0,s1,s2,s3,s4,s5⟩;go_simp;with_reducible rfl;rotate_left;simp only [Act.put,sA_,sB_,sC_,i64_w,i32_w];rfl
 refine tv_ (i:=5) (N:=some 11) (v:=?_) (a':=?_) rfl rfl (by kernel_rfl) (fun _ _ _ h => h) (Or.inl ⟨by rfl,?_⟩) hHeld ?_ ?_
 rotate_left;rintro w' ⟨s0,s1,s2,s3,s4,s5⟩;go_simp;with_reducible rfl;rotate_left;simp only [Act.put,sA_,sB_,sC_,i64_w,i32_w];rfl
 refine pv_ (i:=6) (N:=some 12) (v:=?_) (a':=?_) rfl rfl (by kernel_rfl) (fun _ _ _ h => h) (Or.inl ⟨by rfl,?_⟩) ?_ ?_
 rotate_left;intro w';go_simp;with_reducible rfl;rotate_left;simp only [Act.put,sA_,sB_,sC_,i64_w,i32_w];rfl
 refine tv_ (i:=7) (N:=some 13) (v:=?_) (a':=?_) rfl rfl (by kernel_rfl) (fun _ _ _ h => h) (Or.inl ⟨by rfl,?_⟩) hHeld ?_ ?_
 rotate_left;rintro w' ⟨s0,s1,s2,s3,s4,s5⟩;go_simp;with_reducible rfl;rotate_left;simp only [Act.put,sA_,sB_,sC_,i64_w,i32_w];rfl
 refine one_ (i:=8) (N:=some 5) #[t_,t_,t_,t_,t_,t_,t_,t_,t_,f_] rfl rfl (by kernel_rfl) (by decide) (fun K hK => ?_)
 refine value_ (w1:=?_) (v:=?_) (by rfl) rfl ?_ ?_
 rotate_left 2
 ·go_simp
  constructor
  ·rfl
  ·rfl
 refine hK.out _ _ ⟨(ca hHeld.1 _),(ca hHeld.2.1 _),(ca hHeld.2.2.1 _),(ca hHeld.2.2.2.1 _),(ca hHeld.2.2.2.2.1 _),(ca hHeld.2.2.2.2.2 _)⟩ (fun hHeld => ?_)
 clear hK K
 refine norm_ (a':=?_) ?_ ?_
 rotate_left
 ·show Act.put _ (some 5) _ = _
  simp only [Act.put,sA_,sB_,sC_,i64_w,i32_w]
  rfl
 refine last_ (i:=9) (N:=none) #[t_,t_,t_,t_,t_,t_,t_,t_,t_,t_] rfl rfl (by kernel_rfl) (by decide) (fun K hK => ?_)
 refine skip_ (w1:=?_) (by rfl) rfl ?_ ?_
 rotate_left
 ·go_simp
  rfl
 refine hK.out _ _ ?_
 clear hK K
 refine done_ (by kernel_rfl) ?_
 clear hHeld
 obtain ⟨w1,hw1⟩ : ∃ w1,w1 = (((w.alloc (.cells #[.int .i64 mk,.int .i64 ms,.int .i64 P.no,.int .i64 mp,.int .i64 (j : Int),.int .i64 mv] 49)).alloc (.cells #[.slice none 0 0,.slice none 0 0] 41)).alloc (.cells #[.int .i64 it.version,.int .i64 xh,.slice WA it.queue.length wcap,.slice TA it.through.length tcap] 128)).drew := ⟨_,rfl⟩
 rw [← hw1]
 obtain ⟨hM1,hZ1,hX1⟩ := heap3 w (.cells #[.int .i64 mk,.int .i64 ms,.int .i64 P.no,.int .i64 mp,.int .i64 (j : Int),.int .i64 mv] 49) (.cells #[.slice none 0 0,.slice none 0 0] 41) (.cells #[.int .i64 it.version,.int .i64 xh,.slice WA it.queue.length wcap,.slice TA it.through.length tcap] 128)
 have hF1 : Fr (fun _ => False) tag tag w w1 := by rw [hw1]; exact ((((Fr.refl hok).al _).al _).al _).dr
 obtain ⟨b,hb⟩ : ∃ b,b = w.heap.size := ⟨_,rfl⟩
 obtain ⟨b1,hb1⟩ : ∃ b1,b1 = w.heap.size + 1 := ⟨_,rfl⟩
 obtain ⟨b2,hb2⟩ : ∃ b2,b2 = w.heap.size + 1 + 1 := ⟨_,rfl⟩
 rw [← hb2,← hb1,← hb]
 have hwb : w.heap.size ≤ b := by omega
 have hbb : b < b1 := by omega
 have hbc : b1 < b2 := by omega
 have HTB : Hid ((tag b).1 = 0 ∧ (tag b1).1 = 0 ∧ (tag b2).1 = 0) := Lib.hid ⟨tag_new hok (by omega),tag_new hok (by omega),tag_new hok (by omega)⟩
 have HM1 : Hid (w1.heap[b]? = some (.cells #[.int .i64 mk,.int .i64 ms,.int .i64 P.no,.int .i64 mp,.int .i64 (j : Int),.int .i64 mv] 49 (0,0))) := Lib.hid (by rw [hw1,hb]; exact hM1)
 have HZ1 : Hid (w1.heap[b1]? = some (.cells #[.slice none 0 0,.slice none 0 0] 41 (0,0))) := Lib.hid (by rw [hw1,hb1]; exact hZ1)
 have HX1 : Hid (w1.heap[b2]? = some (.cells #[.int .i64 it.version,.int .i64 xh,.slice WA it.queue.length wcap,.slice TA it.through.length tcap] 128 (0,0))) := Lib.hid (by rw [hw1,hb2]; exact hX1)
 have HF1 := Lib.hid hF1
 have hok1 := hF1.dom
 have HC2 := Lib.hid c2
 have HE0 := Lib.hid e0
 have HE1 := Lib.hid e1
 have HE2 := Lib.hid e2
 have HE3 := Lib.hid e3
 clear hw1 hM1 hZ1 hX1 hF1 hb hb1 hb2 c2 e0 e1 e2 e3
 have hhp : (xh == mp) = (it.held && it.lk.prop == mp) := by
  rw [HXH.out]
  cases it.held
  ·have : (-1 : Int) ≠ mp := by omega
   simpa using this
  ·simp
 have HHP := Lib.hid hhp
 clear hhp
 have m3 : w1.cell? ⟨b,3,none⟩ = some (.int .i64 mp) := cell_of HM1.out 3
 have m5 : w1.cell? ⟨b,5,none⟩ = some (.int .i64 mv) := cell_of HM1.out 5
 have x0 : w1.cell? ⟨b2,0,none⟩ = some (.int .i64 it.version) := cell_of HX1.out 0
 have x1 : w1.cell? ⟨b2,1,none⟩ = some (.int .i64 xh) := cell_of HX1.out 1
 have x2 : w1.cell? ⟨b2,2,none⟩ = some (.slice WA it.queue.length wcap) := cell_of HX1.out 2
 have x3 : w1.cell? ⟨b2,3,none⟩ = some (.slice TA it.through.length tcap) := cell_of HX1.out 3
 have r0 : w1.cell? ⟨b1,0,none⟩ = some (.slice none 0 0) := cell_of HZ1.out 0
 have rz0 : w1.frozen? ⟨b1,0,none⟩ = false := free_of HZ1.out 0
 have r1 : w1.cell? ⟨b1,1,none⟩ = some (.slice none 0 0) := cell_of HZ1.out 1
 have rz1 : w1.frozen? ⟨b1,1,none⟩ = false := free_of HZ1.out 1
 cases hth : decide (mp ∈ it.through)
 ·cases hho : (xh == mp)
  ·cases hwt : it.queue.any (isProp mp)
   ·have HTH := Lib.hid hth
    have HHO := Lib.hid hho
    have HWT := Lib.hid hwt
    clear hth hwt
    by_cases hv : mv = it.version
    ·have hv' : (it.version != mv) = false := by rw [hv]; simp
     have HV := Lib.hid hv
     clear hv
     cases hh : it.held
     ·have hm : askedM P ⟨mk,ms,P.no,mp,(j : Int),mv⟩ j it = grantM P j it j ⟨mp,ms⟩ := by
       have h1 := of_decide_eq_false HTH.out
       simp [askedM,h1,hh,HWT.out,HV.out]
      have hxn : xh = -1 := by rw [HXH.out,hh]; rfl
      have HMM := Lib.hid hm
      have HHH := Lib.hid hh
      have HXN := Lib.hid hxn
      have hx0 : decide (0 ≤ xh) = false := by rw [hxn]; rfl
      have xz1 : w1.frozen? ⟨b2,1,none⟩ = false := free_of HX1.out 1
      clear hm hh hxn
      go_wp2_with (first
         | (go_at_call 115; refine (rin_val it.through mp _ _ HTH.out ((HRT.out.fr HF1.out (fun x => x)).rd (ints_one _)) (by omega)).mono ?_; rintro e w5 ⟨rfl,h5⟩; have h5 := h5.symm; subst h5)
         | (go_at_call 116; refine (rwaits_val it.queue mp _ _ HWT.out (HRW.out.fr HF1.out (fun x => x)).rd (by omega)).mono ?_; rintro e w5 ⟨rfl,h5⟩; have h5 := h5.symm; subst h5))
      clear m3 m5 x0 x1 x2 x3 xz1 r0 r1 rz0 rz1
      obtain ⟨w3,hw3⟩ : ∃ x,x = w1.setCell ⟨b2,1,none⟩ (.int .i64 mp) := ⟨_,rfl⟩
      rw [← hw3]
      have hF3 : Fr (fun _ => False) tag tag w w3 := by rw [hw3]; exact HF1.out.scn (by omega) _ _
      have HF3 := Lib.hid hF3
      have HX3 : Hid (w3.heap[b2]? = some (.cells #[.int .i64 it.version,.int .i64 mp,.slice WA it.queue.length wcap,.slice TA it.through.length tcap] 128 (0,0))) := Lib.hid (by rw [hw3,Go.Ng.heap_setCell_same HX1.out 1 _]; rfl)
      have HM3 := Lib.hid ((Go.Ng.heap_setCell_ne (show b ≠ b2 by omega) 1 (.int .i64 mp)).trans HM1.out)
      have HZ3 := Lib.hid ((Go.Ng.heap_setCell_ne (show b1 ≠ b2 by omega) 1 (.int .i64 mp)).trans HZ1.out)
      rw [← hw3] at HM3 HZ3
      clear hw3 hF3
      have hib : tag ib = (k,3,0) := (HF3.out.same ib his).trans HIT.out
      have hrow : Row tag (k,3,0) 128 4 w3 (.slice (some ⟨ib,0,none⟩) its.length icap) its.length (its.flatMap RIt.cells) := H4.out.fr HF3.out (by simp [hRk,Ne.symm hRk])
      have d2 : w3.cell? ⟨p,2,none⟩ = some (.slice (some ⟨ib,0,none⟩) its.length icap) := HF3.out.cell HC2.out (by (try rw [HPT.out]); simp [hRk,Ne.symm hRk])
      have m4 : w3.cell? ⟨b,4,none⟩ = some (.int .i64 (j : Int)) := cell_of HM3.out 4
      have mz4 : w3.frozen? ⟨b,4,none⟩ = false := free_of HM3.out 4
      have x0 : w3.cell? ⟨b2,0,none⟩ = some (.int .i64 it.version) := cell_of HX3.out 0
      have xz0 : w3.frozen? ⟨b2,0,none⟩ = false := free_of HX3.out 0
      have x1 : w3.cell? ⟨b2,1,none⟩ = some (.int .i64 mp) := cell_of HX3.out 1
      have xz1 : w3.frozen? ⟨b2,1,none⟩ = false := free_of HX3.out 1
      have x2 : w3.cell? ⟨b2,2,none⟩ = some (.slice WA it.queue.length wcap) := cell_of HX3.out 2
      have xz2 : w3.frozen? ⟨b2,2,none⟩ = false := free_of HX3.out 2
      have x3 : w3.cell? ⟨b2,3,none⟩ = some (.slice TA it.through.length tcap) := cell_of HX3.out 3
      have xz3 : w3.frozen? ⟨b2,3,none⟩ = false := free_of HX3.out 3
      have y0 : w3.cell? ⟨ib,j * 4,none⟩ = some (.int .i64 it.version) := HF3.out.cell HE0.out (by (try rw [HIT.out]); simp [hRk,Ne.symm hRk])
      have y1 : w3.cell? ⟨ib,j * 4 + 1,none⟩ = some (.int .i64 xh) := HF3.out.cell HE1.out (by (try rw [HIT.out]); simp [hRk,Ne.symm hRk])
      have y2 : w3.cell? ⟨ib,j * 4 + 2,none⟩ = some (.slice WA it.queue.length wcap) := HF3.out.cell HE2.out (by (try rw [HIT.out]); simp [hRk,Ne.symm hRk])
      have y3 : w3.cell? ⟨ib,j * 4 + 3,none⟩ = some (.slice TA it.through.length tcap) := HF3.out.cell HE3.out (by (try rw [HIT.out]); simp [hRk,Ne.symm hRk])
      have hz : ∀ o,w3.frozen? ⟨ib,o,none⟩ = false := fun o => Row.free' hrow (by rw [rits_len]; omega)
      have z0 := hz (j * 4)
      have z1 := hz (j * 4 + 1)
      have z2 := hz (j * 4 + 2)
      have z3 := hz (j * 4 + 3)
      have HROW := Lib.hid hrow
      clear hz hrow
      refine start_ (n:=9) (S:=fun w' => w'.cell? ⟨p,2,none⟩ = some (.slice (some ⟨ib,0,none⟩) its.length icap) ∧ w'.cell? ⟨b,4,none⟩ = some (.int .i64 (j : Int)) ∧ w'.cell? ⟨b2,0,none⟩ = some (.int .i64 it.version) ∧ w'.cell? ⟨b2,1,none⟩ = some (.int .i64 mp) ∧ w'.cell? ⟨b2,2,none⟩ = some (.slice WA it.queue.length wcap) ∧ w'.cell? ⟨b2,3,none⟩ = some (.slice TA it.through.length tcap)) (ds := [8]) #[f_,f_,f_,f_,f_,f_,f_,f_,f_] (by kernel_rfl) rfl rfl ⟨d2,m4,x0,x1,x2,x3⟩ (fun hHeld => ?_)
      refine pv_ (i:=0) (N:=some 87) (v:=?_) (a':=?_) rfl rfl (by kernel_rfl) (fun _ _ _ h => h) (Or.inl ⟨by rfl,?_⟩) ?_ ?_
      rotate_left;intro w';go_simp;with_reducible rfl;rotate_left;simp only [Act.put,sA_,sB_,sC_,i64_w,i32_w];rfl
      refine pv_ (i:=1) (N:=some 88) (v:=?_) (a':=?_) rfl rfl (by kernel_rfl) (fun _ _ _ h => h) (Or.inl ⟨by rfl,?_⟩) ?_ ?_
      rotate_left;intro w';go_simp;with_reducible rfl;rotate_left;simp only [Act.put,sA_,sB_,sC_,i64_w,i32_w];rfl
      refine pv_ (i:=2) (N:=some 89) (v:=?_) (a':=?_) rfl rfl (by kernel_rfl) (fun _ _ _ h => h) (Or.inl ⟨by rfl,?_⟩) ?_ ?_
      rotate_left;intro w';go_simp;with_reducible rfl;rotate_left;simp only [Act.put,sA_,sB_,sC_,i64_w,i32_w];rfl
      refine pv_ (i:=4) (N:=some 91) (v:=?_) (a':=?_) rfl rfl (by kernel_rfl) (fun _ _ _ h => h) (Or.inl ⟨by rfl,?_⟩) ?_ ?_
      rotate_left;intro w';go_simp;with_reducible rfl;rotate_left;simp only [Act.put,sA_,sB_,sC_,i64_w,i32_w];rfl
      refine tv_ (i:=3) (N:=some 90) (v:=?_) (a':=?_) rfl rfl (by kernel_rfl) (fun _ _ _ h => h) (Or.inl ⟨by rfl,?_⟩) hHeld ?_ ?_
      rotate_left;rintro w' ⟨s0,s1,s2,s3,s4,s5⟩;go_simp;with_reducible rfl;rotate_left;simp only [Act.put,sA_,sB_,sC_,i64_w,i32_w];rfl
      refine tv_ (i:=5) (N:=some 92) (v:=?_) (a':=?_) rfl rfl (by kernel_rfl) (fun _ _ _ h => h) (Or.inl ⟨by rfl,?_⟩) hHeld ?_ ?_
      rotate_left;rintro w' ⟨s0,s1,s2,s3,s4,s5⟩;go_simp;with_reducible rfl;rotate_left;simp only [Act.put,sA_,sB_,sC_,i64_w,i32_w];rfl
      refine tv_ (i:=6) (N:=some 93) (v:=?_) (a':=?_) rfl rfl (by kernel_rfl) (fun _ _ _ h => h) (Or.inl ⟨by rfl,?_⟩) hHeld ?_ ?_
      rotate_left;rintro w' ⟨s0,s1,s2,s3,s4,s5⟩;go_simp;with_reducible rfl;rotate_left;simp only [Act.put,sA_,sB_,sC_,i64_w,i32_w];rfl
      refine pv_ (i:=7) (N:=some 94) (v:=?_) (a':=?_) rfl rfl (by kernel_rfl) (fun _ _ _ h => h) (Or.inl ⟨by rfl,?_⟩) ?_ ?_
      rotate_left;intro w';go_simp;with_reducible rfl;rotate_left;simp only [Act.put,sA_,sB_,sC_,i64_w,i32_w];rfl
      refine last_ (i:=8) (N:=none) #[t_,t_,t_,t_,t_,t_,t_,t_,t_] rfl rfl (by kernel_rfl) (by decide) (fun K hK => ?_)
      refine skip_ (w1:=?_) (by rfl) rfl ?_ ?_
      rotate_left
      ·go_simp
       rfl
      refine hK.out _ _ ?_
      clear hK K
      refine done_ (by kernel_rfl) ?_
      clear hHeld
      obtain ⟨w4,hW⟩ : ∃ x,x = ((((w3.setCell ⟨ib,j * 4,none⟩ (.int .i64 it.version)).setCell ⟨ib,j * 4 + 1,none⟩ (.int .i64 mp)).setCell ⟨ib,j * 4 + 2,none⟩ (.slice WA it.queue.length wcap)).setCell ⟨ib,j * 4 + 3,none⟩ (.slice TA it.through.length tcap)).drew := ⟨_,rfl⟩
      rw [← hW]
      have hF : Fr (fun t => False ∨ t = (k,3,0)) tag tag w w4 := by
       rw [hW]
       exact (((((HF3.out.mono (fun _ h => .inl h)).sc ib _ _ (.inr hib)).sc ib _ _ (.inr hib)).sc ib _ _ (.inr hib)).sc ib _ _ (.inr hib)).dr
      have hG : Fr (fun t => t = (k,3,0)) tag tag w3 w4 := by
       rw [hW]
       exact (((((Fr.refl HF3.out.dom).sc ib _ _ hib).sc ib _ _ hib).sc ib _ _ hib).sc ib _ _ hib).dr
      have hrow2 : Row tag (k,3,0) 128 4 w4 (.slice (some ⟨ib,0,none⟩) its.length icap) its.length ((its.set j ⟨it.version,mp,.slice WA it.queue.length wcap,.slice TA it.through.length tcap⟩).flatMap RIt.cells) := by
       rw [hW,← rits_set its j ⟨it.version,mp,.slice WA it.queue.length wcap,.slice TA it.through.length tcap⟩ hil]
       have hl := rits_len its
       exact ((((HROW.out.put_cell (j:=j * 4) (by omega) _).put_cell (j:=j * 4 + 1) (by simp only [List.length_set]; omega) _).put_cell (j:=j * 4 + 2) (by simp only [List.length_set]; omega) _).put_cell (j:=j * 4 + 3) (by simp only [List.length_set]; omega) _).drew
      have HF4 := Lib.hid hF
      have HG4 := Lib.hid hG
      have HROW4 := Lib.hid hrow2
      have HM4 := Lib.hid (hG.heap HM3.out (t0_ne HTB.out.1 hk0))
      have HZ4 := Lib.hid (hG.heap HZ3.out (t0_ne HTB.out.2.1 hk0))
      have hok4 := hF.dom
      clear hW hF hG hrow2 hib d2 m4 mz4 x0 xz0 x1 xz1 x2 xz2 x3 xz3 y0 y1 y2 y3 z0 z1 z2 z3
      have m0 : w4.cell? ⟨b,0,none⟩ = some (.int .i64 mk) := cell_of HM4.out 0
      have m1 : w4.cell? ⟨b,1,none⟩ = some (.int .i64 ms) := cell_of HM4.out 1
      have m2 : w4.cell? ⟨b,2,none⟩ = some (.int .i64 P.no) := cell_of HM4.out 2
      have m3 : w4.cell? ⟨b,3,none⟩ = some (.int .i64 mp) := cell_of HM4.out 3
      have m4 : w4.cell? ⟨b,4,none⟩ = some (.int .i64 (j : Int)) := cell_of HM4.out 4
      have m5 : w4.cell? ⟨b,5,none⟩ = some (.int .i64 mv) := cell_of HM4.out 5
      go_wp2_with (go_at_call 117; refine (rback_agg mk ms P.no mp (j : Int) mv 2 mp ms _ hok4).mono ?_; rintro e w7 ⟨rfl,hF7⟩; have hZ7 := hF7.heap HZ4.out (fun x => x); have hl7 := lt_of_heap hZ7; have HZ7 := Lib.hid hZ7; have r0 : w7.cell? ⟨b1,0,none⟩ = some (.slice none 0 0) := cell_of hZ7 0; have rz0 : w7.frozen? ⟨b1,0,none⟩ = false := free_of hZ7 0; have r1 : w7.cell? ⟨b1,1,none⟩ = some (.slice none 0 0) := cell_of hZ7 1; have rz1 : w7.frozen? ⟨b1,1,none⟩ = false := free_of hZ7 1; have HF7 := Lib.hid hF7; clear hZ7 hF7)
      clear m0 m1 m2 m3 m4 m5 r0 r1 rz0 rz1 hl7
      have hP : RPRep tag k w4 p (P.setItem j { it with held := true,lk := ⟨mp,ms⟩ }) := H.out.set_item HJ.out HF4.out (fun t ht => by rcases ht with ht | ht <;> first | exact ht.elim | exact .inl ht | exact .inr (.inl ht) | exact .inr (.inr (.inl ht))) H1.out HL.out H5.out (x' := ⟨it.version,mp,.slice WA it.queue.length wcap,.slice TA it.through.length tcap⟩) HROW4.out ⟨rfl,rfl,(HRW.out.fr HF4.out (by simp)),(HRT.out.fr HF4.out (by simp))⟩
      have HP := Lib.hid hP
      clear hP
      obtain ⟨wz,hwz⟩ : ∃ x,x = ((w7.setCell ⟨b1,0,none⟩ (.slice (some ⟨w7.heap.size,0,none⟩) 1 1)).setCell ⟨b1,1,none⟩ (.slice none 0 0)).alloc (.cells #[.int .i64 2,.int .i64 P.no,.int .i64 ms,.int .i64 mp,.int .i64 (j : Int),.int .i64 0] 49) := ⟨_,rfl⟩
      rw [← hwz]
      obtain ⟨k1,k2,k3,k4⟩ := post_end (HF4.out.trans HF7.out.up) (by omega) HZ7.out (R,1,0) ⟨2,P.no,ms,mp,(j : Int),0⟩ (.slice none 0 0) HTB.out.2.1 hwz
      have rr0 := cell_of k4 0
      have rr1 := cell_of k4 1
      have rr0' : wz.cell? ⟨b1,0,none⟩ = some (.slice (some ⟨w7.heap.size,0,none⟩) 1 1) := rr0
      have rr1' : wz.cell? ⟨b1,1,none⟩ = some (.slice none 0 0) := rr1
      refine bodyPost_ret (v:=.agg #[.slice (some ⟨w7.heap.size,0,none⟩) 1 1,.slice none 0 0]) (by simp [results,Try.results82,go_sem,rr0',rr1']) rfl ?_
      clear rr0 rr1 rr0' rr1'
      rw [HMM.out]
      refine ⟨_,_,_,rfl,?_,?_,(((HP.out.frF HF7.out).fr k3 (fun r i => hk0)).congr rfl rfl rfl rfl),k1.mono (fun t h => by rcases h with h | h <;> first | exact h.elim | exact .inl (by rw [h]))⟩
      ·show Row _ _ _ _ _ _ (P.out ++ [_]).length (posts (P.out ++ [_]))
       rw [HO.out]
       exact k2
      ·show Row _ _ _ _ _ _ P.came.length (cames P.came)
       rw [HC.out]
       exact Row.nil _ _ _ _ _
     ·have hxn : xh = it.lk.prop := by rw [HXH.out,hh]; rfl
      have hx1 : 0 ≤ xh := by rw [hxn]; exact (HI.out.hold hh).2.2
      have hm : askedM P ⟨mk,ms,P.no,mp,(j : Int),mv⟩ j it = P.setItem j { it with queue := it.queue ++ [⟨mp,ms⟩] } := by
       have h1 := of_decide_eq_false HTH.out
       have h2 : it.lk.prop ≠ mp := by rw [← hxn]; simpa using HHO.out
       simp [askedM,h1,hh,HWT.out,HV.out,h2]
      have HMM := Lib.hid hm
      have HHH := Lib.hid hh
      clear hm hh hxn
      have hx0 : decide (0 ≤ xh) = true := by simpa using hx1
      have m1 : w1.cell? ⟨b,1,none⟩ = some (.int .i64 ms) := cell_of HM1.out 1
      go_wp2_with (first
       | (first
         | (go_at_call 115; refine (rin_val it.through mp _ _ HTH.out ((HRT.out.fr HF1.out (fun x => x)).rd (ints_one _)) (by omega)).mono ?_; rintro e w5 ⟨rfl,h5⟩; have h5 := h5.symm; subst h5)
         | (go_at_call 116; refine (rwaits_val it.queue mp _ _ HWT.out (HRW.out.fr HF1.out (fun x => x)).rd (by omega)).mono ?_; rintro e w5 ⟨rfl,h5⟩; have h5 := h5.symm; subst h5))
       | (at_builtin; refine oappend_list rfl (.tmp 66) (.tmp 72) 126 rfl (by rfl) (by rfl) (HRW.out.fr (HF1.out.al _) (fun x => x)) (hok1.alloc _) Try.underlying126 hi173 hq0 hq1 hq2 rfl (by decide) [.int .i64 mp,.int .i64 ms] rfl (news_at (heap_alloc_at _ _)) (by simp [Value.oneCell']) (by decide) (by unfold maxLen; omega) (by omega) ?_; intro A5 cap5 w2 tag2 hrow hfr; have HX2 := Lib.hid (hfr.heap (heap_alloc_lt HX1.out _) (t0_ne HTB.out.2.2 hk0)); have HM2 := Lib.hid (hfr.heap (heap_alloc_lt HM1.out _) (t0_ne HTB.out.1 hk0)); have HZ2 := Lib.hid (hfr.heap (heap_alloc_lt HZ1.out _) (t0_ne HTB.out.2.1 hk0)); have HTB2 : Hid ((tag2 b).1 = 0 ∧ (tag2 b1).1 = 0 ∧ (tag2 b2).1 = 0) := Lib.hid ⟨by rw [hfr.same b (lt_of_heap (heap_alloc_lt HM1.out _))]; exact HTB.out.1,by rw [hfr.same b1 (lt_of_heap (heap_alloc_lt HZ1.out _))]; exact HTB.out.2.1,by rw [hfr.same b2 (lt_of_heap (heap_alloc_lt HX1.out _))]; exact HTB.out.2.2⟩; have v2 : w2.cell? ⟨b2,2,none⟩ = some (.slice WA it.queue.length wcap) := cell_of HX2.out 2; have vz2 : w2.frozen? ⟨b2,2,none⟩ = false := free_of HX2.out 2; have HF2 := Lib.hid ((HF1.out.up.al _).trans hfr); have HROW2 := Lib.hid hrow; have hok2 := hfr.dom; clear hrow hfr))
      clear m1 m3 m5 x0 x1 x2 x3 r0 r1 rz0 rz1 hx0
      clear v2 vz2
      obtain ⟨w3,hw3⟩ : ∃ x,x = w2.setCell ⟨b2,2,none⟩ (.slice A5 (it.queue.length + 1) cap5) := ⟨_,rfl⟩
      rw [← hw3]
      have HF3 : Hid (Fr (fun t => t = (k,6,(j : Int))) tag tag2 w w3) := Lib.hid (by rw [hw3]; exact HF2.out.scn (by omega) _ _)
      have HL3 : Hid (Fr (fun t => t.1 = 0) tag2 tag2 w2 w3) := Lib.hid (by rw [hw3]; exact Fr.setCell hok2 (a := ⟨b2,2,none⟩) HTB2.out.2.2 _)
      have HX3 : Hid (w3.heap[b2]? = some (.cells #[.int .i64 it.version,.int .i64 xh,.slice A5 (it.queue.length + 1) cap5,.slice TA it.through.length tcap] 128 (0,0))) := Lib.hid (by rw [hw3,Go.Ng.heap_setCell_same HX2.out 2 _]; rfl)
      have HM3 := Lib.hid ((Go.Ng.heap_setCell_ne (show b ≠ b2 by omega) 2 (.slice A5 (it.queue.length + 1) cap5)).trans HM2.out)
      have HZ3 := Lib.hid ((Go.Ng.heap_setCell_ne (show b1 ≠ b2 by omega) 2 (.slice A5 (it.queue.length + 1) cap5)).trans HZ2.out)
      rw [← hw3] at HM3 HZ3
      clear hw3
      have hib : tag2 ib = (k,3,0) := (HF3.out.same ib his).trans HIT.out
      have hrow : Row tag2 (k,3,0) 128 4 w3 (.slice (some ⟨ib,0,none⟩) its.length icap) its.length (its.flatMap RIt.cells) := H4.out.fr HF3.out (by simp [hRk,Ne.symm hRk])
      have d2 : w3.cell? ⟨p,2,none⟩ = some (.slice (some ⟨ib,0,none⟩) its.length icap) := HF3.out.cell HC2.out (by (try rw [HPT.out]); simp [hRk,Ne.symm hRk])
      have m4 : w3.cell? ⟨b,4,none⟩ = some (.int .i64 (j : Int)) := cell_of HM3.out 4
      have mz4 : w3.frozen? ⟨b,4,none⟩ = false := free_of HM3.out 4
      have x0 : w3.cell? ⟨b2,0,none⟩ = some (.int .i64 it.version) := cell_of HX3.out 0
      have xz0 : w3.frozen? ⟨b2,0,none⟩ = false := free_of HX3.out 0
      have x1 : w3.cell? ⟨b2,1,none⟩ = some (.int .i64 xh) := cell_of HX3.out 1
      have xz1 : w3.frozen? ⟨b2,1,none⟩ = false := free_of HX3.out 1
      have x2 : w3.cell? ⟨b2,2,none⟩ = some (.slice A5 (it.queue.length + 1) cap5) := cell_of HX3.out 2
      have xz2 : w3.frozen? ⟨b2,2,none⟩ = false := free_of HX3.out 2
      have x3 : w3.cell? ⟨b2,3,none⟩ = some (.slice TA it.through.length tcap) := cell_of HX3.out 3
      have xz3 : w3.frozen? ⟨b2,3,none⟩ = false := free_of HX3.out 3
      have y0 : w3.cell? ⟨ib,j * 4,none⟩ = some (.int .i64 it.version) := HF3.out.cell HE0.out (by (try rw [HIT.out]); simp [hRk,Ne.symm hRk])
      have y1 : w3.cell? ⟨ib,j * 4 + 1,none⟩ = some (.int .i64 xh) := HF3.out.cell HE1.out (by (try rw [HIT.out]); simp [hRk,Ne.symm hRk])
      have y2 : w3.cell? ⟨ib,j * 4 + 2,none⟩ = some (.slice WA it.queue.length wcap) := HF3.out.cell HE2.out (by (try rw [HIT.out]); simp [hRk,Ne.symm hRk])
      have y3 : w3.cell? ⟨ib,j * 4 + 3,none⟩ = some (.slice TA it.through.length tcap) := HF3.out.cell HE3.out (by (try rw [HIT.out]); simp [hRk,Ne.symm hRk])
      have hz : ∀ o,w3.frozen? ⟨ib,o,none⟩ = false := fun o => Row.free' hrow (by rw [rits_len]; omega)
      have z0 := hz (j * 4)
      have z1 := hz (j * 4 + 1)
      have z2 := hz (j * 4 + 2)
      have z3 := hz (j * 4 + 3)
      have HROW := Lib.hid hrow
      clear hz hrow
      refine start_ (n:=9) (S:=fun w' => w'.cell? ⟨p,2,none⟩ = some (.slice (some ⟨ib,0,none⟩) its.length icap) ∧ w'.cell? ⟨b,4,none⟩ = some (.int .i64 (j : Int)) ∧ w'.cell? ⟨b2,0,none⟩ = some (.int .i64 it.version) ∧ w'.cell? ⟨b2,1,none⟩ = some (.int .i64 xh) ∧ w'.cell? ⟨b2,2,none⟩ = some (.slice A5 (it.queue.length + 1) cap5) ∧ w'.cell? ⟨b2,3,none⟩ = some (.slice TA it.through.length tcap)) (ds := [8]) #[f_,f_,f_,f_,f_,f_,f_,f_,f_] (by kernel_rfl) rfl rfl ⟨d2,m4,x0,x1,x2,x3⟩ (fun hHeld => ?_)
      refine pv_ (i:=0) (N:=some 75) (v:=?_) (a':=?_) rfl rfl (by kernel_rfl) (fun _ _ _ h => h) (Or.inl ⟨by rfl,?_⟩) ?_ ?_
      rotate_left;intro w';go_simp;with_reducible rfl;rotate_left;simp only [Act.put,sA_,sB_,sC_,i64_w,i32_w];rfl
      refine pv_ (i:=1) (N:=some 76) (v:=?_) (a':=?_) rfl rfl (by kernel_rfl) (fun _ _ _ h => h) (Or.inl ⟨by rfl,?_⟩) ?_ ?_
      rotate_left;intro w';go_simp;with_reducible rfl;rotate_left;simp only [Act.put,sA_,sB_,sC_,i64_w,i32_w];rfl
      refine pv_ (i:=2) (N:=some 77) (v:=?_) (a':=?_) rfl rfl (by kernel_rfl) (fun _ _ _ h => h) (Or.inl ⟨by rfl,?_⟩) ?_ ?_
      rotate_left;intro w';go_simp;with_reducible rfl;rotate_left;simp only [Act.put,sA_,sB_,sC_,i64_w,i32_w];rfl
      refine pv_ (i:=4) (N:=some 79) (v:=?_) (a':=?_) rfl rfl (by kernel_rfl) (fun _ _ _ h => h) (Or.inl ⟨by rfl,?_⟩) ?_ ?_
      rotate_left;intro w';go_simp;with_reducible rfl;rotate_left;simp only [Act.put,sA_,sB_,sC_,i64_w,i32_w];rfl
      refine tv_ (i:=3) (N:=some 78) (v:=?_) (a':=?_) rfl rfl (by kernel_rfl) (fun _ _ _ h => h) (Or.inl ⟨by rfl,?_⟩) hHeld ?_ ?_
      rotate_left;rintro w' ⟨s0,s1,s2,s3,s4,s5⟩;go_simp;with_reducible rfl;rotate_left;simp only [Act.put,sA_,sB_,sC_,i64_w,i32_w];rfl
      refine tv_ (i:=5) (N:=some 80) (v:=?_) (a':=?_) rfl rfl (by kernel_rfl) (fun _ _ _ h => h) (Or.inl ⟨by rfl,?_⟩) hHeld ?_ ?_
      rotate_left;rintro w' ⟨s0,s1,s2,s3,s4,s5⟩;go_simp;with_reducible rfl;rotate_left;simp only [Act.put,sA_,sB_,sC_,i64_w,i32_w];rfl
      refine tv_ (i:=6) (N:=some 81) (v:=?_) (a':=?_) rfl rfl (by kernel_rfl) (fun _ _ _ h => h) (Or.inl ⟨by rfl,?_⟩) hHeld ?_ ?_
      rotate_left;rintro w' ⟨s0,s1,s2,s3,s4,s5⟩;go_simp;with_reducible rfl;rotate_left;simp only [Act.put,sA_,sB_,sC_,i64_w,i32_w];rfl
      refine pv_ (i:=7) (N:=some 82) (v:=?_) (a':=?_) rfl rfl (by kernel_rfl) (fun _ _ _ h => h) (Or.inl ⟨by rfl,?_⟩) ?_ ?_
      rotate_left;intro w';go_simp;with_reducible rfl;rotate_left;simp only [Act.put,sA_,sB_,sC_,i64_w,i32_w];rfl
      refine last_ (i:=8) (N:=none) #[t_,t_,t_,t_,t_,t_,t_,t_,t_] rfl rfl (by kernel_rfl) (by decide) (fun K hK => ?_)
      refine skip_ (w1:=?_) (by rfl) rfl ?_ ?_
      rotate_left
      ·go_simp
       rfl
      refine hK.out _ _ ?_
      clear hK K
      refine done_ (by kernel_rfl) ?_
      clear hHeld
      obtain ⟨w4,hW⟩ : ∃ x,x = ((((w3.setCell ⟨ib,j * 4,none⟩ (.int .i64 it.version)).setCell ⟨ib,j * 4 + 1,none⟩ (.int .i64 xh)).setCell ⟨ib,j * 4 + 2,none⟩ (.slice A5 (it.queue.length + 1) cap5)).setCell ⟨ib,j * 4 + 3,none⟩ (.slice TA it.through.length tcap)).drew := ⟨_,rfl⟩
      rw [← hW]
      have hF : Fr (fun t => t = (k,6,(j : Int)) ∨ t = (k,3,0)) tag tag2 w w4 := by
       rw [hW]
       exact (((((HF3.out.mono (fun _ h => .inl h)).sc ib _ _ (.inr hib)).sc ib _ _ (.inr hib)).sc ib _ _ (.inr hib)).sc ib _ _ (.inr hib)).dr
      have hG : Fr (fun t => t = (k,3,0)) tag2 tag2 w3 w4 := by
       rw [hW]
       exact (((((Fr.refl HF3.out.dom).sc ib _ _ hib).sc ib _ _ hib).sc ib _ _ hib).sc ib _ _ hib).dr
      have hrow2 : Row tag2 (k,3,0) 128 4 w4 (.slice (some ⟨ib,0,none⟩) its.length icap) its.length ((its.set j ⟨it.version,xh,.slice A5 (it.queue.length + 1) cap5,.slice TA it.through.length tcap⟩).flatMap RIt.cells) := by
       rw [hW,← rits_set its j ⟨it.version,xh,.slice A5 (it.queue.length + 1) cap5,.slice TA it.through.length tcap⟩ hil]
       have hl := rits_len its
       exact ((((HROW.out.put_cell (j:=j * 4) (by omega) _).put_cell (j:=j * 4 + 1) (by simp only [List.length_set]; omega) _).put_cell (j:=j * 4 + 2) (by simp only [List.length_set]; omega) _).put_cell (j:=j * 4 + 3) (by simp only [List.length_set]; omega) _).drew
      have HF4 := Lib.hid hF
      have HG4 := Lib.hid hG
      have HROW4 := Lib.hid hrow2
      have HM4 := Lib.hid (hG.heap HM3.out (t0_ne HTB2.out.1 hk0))
      have HZ4 := Lib.hid (hG.heap HZ3.out (t0_ne HTB2.out.2.1 hk0))
      have hok4 := hF.dom
      clear hW hF hG hrow2 hib d2 m4 mz4 x0 xz0 x1 xz1 x2 xz2 x3 xz3 y0 y1 y2 y3 z0 z1 z2 z3
      have r0 : w4.cell? ⟨b1,0,none⟩ = some (.slice none 0 0) := cell_of HZ4.out 0
      have r1 : w4.cell? ⟨b1,1,none⟩ = some (.slice none 0 0) := cell_of HZ4.out 1
      have rz0 := free_of HZ4.out 0
      have rz1 := free_of HZ4.out 1
      go_wp2_with fail
      obtain ⟨wz,hwz⟩ : ∃ yy,yy = (w4.setCell ⟨b1,0,none⟩ (.slice none 0 0)).setCell ⟨b1,1,none⟩ (.slice none 0 0) := ⟨_,rfl⟩
      rw [← hwz]
      have hzz : wz.heap[b1]? = some (.cells #[.slice none 0 0,.slice none 0 0] 41 (0,0)) := by
       rw [hwz,Go.Ng.heap_setCell_same (Go.Ng.heap_setCell_same HZ4.out 0 _) 1 _]
       rfl
      have rr0 : wz.cell? ⟨b1,0,none⟩ = some (.slice none 0 0) := cell_of hzz 0
      have rr1 : wz.cell? ⟨b1,1,none⟩ = some (.slice none 0 0) := cell_of hzz 1
      refine bodyPost_ret (v:=.agg #[.slice none 0 0,.slice none 0 0]) (by simp [results,Try.results82,go_sem,rr0,rr1]) rfl ?_
      clear rr0 rr1
      rw [HMM.out]
      have hP : RPRep tag2 k w4 p (P.setItem j { it with queue := it.queue ++ [⟨mp,ms⟩] }) := H.out.set_item HJ.out HF4.out (fun t ht => by rcases ht with ht | ht <;> first | exact .inl ht | exact .inr (.inl ht)) H1.out HL.out H5.out (x' := ⟨it.version,xh,.slice A5 (it.queue.length + 1) cap5,.slice TA it.through.length tcap⟩) HROW4.out
       ⟨rfl,HXH.out,by have := (HROW2.out.fr HL3.out hk0).fr HG4.out (by simp); simpa [askers,Asker.cells] using this,HRT.out.fr HF4.out (by simp)⟩
      refine ⟨_,_,tag2,rfl,by show Row _ _ _ _ _ _ P.out.length (posts P.out); rw [HO.out]; exact Row.nil _ _ _ _ _,by show Row _ _ _ _ _ _ P.came.length (cames P.came); rw [HC.out]; exact Row.nil _ _ _ _ _,?_,by rw [hwz]; exact (((HF4.out.scn (by omega) _ _).scn (by omega) _ _).mono (fun t h => by rcases h with h | h <;> exact .inl (by rw [h])))⟩
      rw [hwz]
      exact hP.fr (S:=fun t => t.1 = 0) (((Fr.refl hok4).sc b1 _ _ HTB2.out.2.1).sc b1 _ _ HTB2.out.2.1) (fun r i => hk0)
    ·have hv' : (it.version != mv) = true := by rw [bne_iff_ne]; exact fun e => hv e.symm
     have hm : askedM P ⟨mk,ms,P.no,mp,(j : Int),mv⟩ j it = refuseM P j it j ⟨mp,ms⟩ := by
      have h1 := of_decide_eq_false HTH.out
      have h2 := HHO.out
      rw [HHP.out] at h2
      simp at h2
      simp only [askedM]
      rw [if_neg (by simp [h1,HWT.out]; simpa using h2),if_pos hv]
     have hth2 : addT mp it.through = it.through ++ [mp] := by rw [addT,if_neg (of_decide_eq_false HTH.out)]
     have HMM := Lib.hid hm
     have HT2 := Lib.hid hth2
     have HV := Lib.hid hv
     clear hm hv hth2
     go_wp2_with (first
      | (first
         | (go_at_call 115; refine (rin_val it.through mp _ _ HTH.out ((HRT.out.fr HF1.out (fun x => x)).rd (ints_one _)) (by omega)).mono ?_; rintro e w5 ⟨rfl,h5⟩; have h5 := h5.symm; subst h5)
         | (go_at_call 116; refine (rwaits_val it.queue mp _ _ HWT.out (HRW.out.fr HF1.out (fun x => x)).rd (by omega)).mono ?_; rintro e w5 ⟨rfl,h5⟩; have h5 := h5.symm; subst h5))
      | (at_builtin; refine append_list rfl (.tmp 40) (.tmp 43) 22 rfl (by rfl) (by rfl) (HRT.out.fr (HF1.out.al _) (fun x => x)) (hok1.alloc _) Try.underlying22 hi3 hy0 hy1 hy2 rfl (by decide) [.int .i64 mp] rfl (news_at (heap_alloc_at _ _)) (by simp [Value.oneCell']) (by decide) (by unfold maxLen; omega) (by omega) ?_; intro g5 cap5 w2 tag2 hrow hfr; have HX2 := Lib.hid (hfr.heap (heap_alloc_lt HX1.out _) (t0_ne HTB.out.2.2 hk0)); have HM2 := Lib.hid (hfr.heap (heap_alloc_lt HM1.out _) (t0_ne HTB.out.1 hk0)); have HZ2 := Lib.hid (hfr.heap (heap_alloc_lt HZ1.out _) (t0_ne HTB.out.2.1 hk0)); have HTB2 : Hid ((tag2 b).1 = 0 ∧ (tag2 b1).1 = 0 ∧ (tag2 b2).1 = 0) := Lib.hid ⟨by rw [hfr.same b (lt_of_heap (heap_alloc_lt HM1.out _))]; exact HTB.out.1,by rw [hfr.same b1 (lt_of_heap (heap_alloc_lt HZ1.out _))]; exact HTB.out.2.1,by rw [hfr.same b2 (lt_of_heap (heap_alloc_lt HX1.out _))]; exact HTB.out.2.2⟩; have v3 : w2.cell? ⟨b2,3,none⟩ = some (.slice TA it.through.length tcap) := cell_of HX2.out 3; have vz3 : w2.frozen? ⟨b2,3,none⟩ = false := free_of HX2.out 3; have HF2 := Lib.hid ((HF1.out.up.al _).trans hfr); have HROW2 := Lib.hid hrow; have hok2 := hfr.dom; clear hrow hfr))
     clear m3 m5 x0 x1 x2 x3 r0 r1 rz0 rz1
     clear v3 vz3
     obtain ⟨w3,hw3⟩ : ∃ x,x = w2.setCell ⟨b2,3,none⟩ (.slice (some ⟨g5,0,none⟩) (it.through.length + 1) cap5) := ⟨_,rfl⟩
     rw [← hw3]
     have HF3 : Hid (Fr (fun t => t = (k,7,(j : Int))) tag tag2 w w3) := Lib.hid (by rw [hw3]; exact HF2.out.scn (by omega) _ _)
     have HL3 : Hid (Fr (fun t => t.1 = 0) tag2 tag2 w2 w3) := Lib.hid (by rw [hw3]; exact Fr.setCell hok2 (a := ⟨b2,3,none⟩) HTB2.out.2.2 _)
     have HX3 : Hid (w3.heap[b2]? = some (.cells #[.int .i64 it.version,.int .i64 xh,.slice WA it.queue.length wcap,.slice (some ⟨g5,0,none⟩) (it.through.length + 1) cap5] 128 (0,0))) := Lib.hid (by rw [hw3,Go.Ng.heap_setCell_same HX2.out 3 _]; rfl)
     have HM3 := Lib.hid ((Go.Ng.heap_setCell_ne (show b ≠ b2 by omega) 3 (.slice (some ⟨g5,0,none⟩) (it.through.length + 1) cap5)).trans HM2.out)
     have HZ3 := Lib.hid ((Go.Ng.heap_setCell_ne (show b1 ≠ b2 by omega) 3 (.slice (some ⟨g5,0,none⟩) (it.through.length + 1) cap5)).trans HZ2.out)
     rw [← hw3] at HM3 HZ3
     clear hw3
     have hib : tag2 ib = (k,3,0) := (HF3.out.same ib his).trans HIT.out
     have hrow : Row tag2 (k,3,0) 128 4 w3 (.slice (some ⟨ib,0,none⟩) its.length icap) its.length (its.flatMap RIt.cells) := H4.out.fr HF3.out (by simp [hRk,Ne.symm hRk])
     have d2 : w3.cell? ⟨p,2,none⟩ = some (.slice (some ⟨ib,0,none⟩) its.length icap) := HF3.out.cell HC2.out (by (try rw [HPT.out]); simp [hRk,Ne.symm hRk])
     have m4 : w3.cell? ⟨b,4,none⟩ = some (.int .i64 (j : Int)) := cell_of HM3.out 4
     have mz4 : w3.frozen? ⟨b,4,none⟩ = false := free_of HM3.out 4
     have x0 : w3.cell? ⟨b2,0,none⟩ = some (.int .i64 it.version) := cell_of HX3.out 0
     have xz0 : w3.frozen? ⟨b2,0,none⟩ = false := free_of HX3.out 0
     have x1 : w3.cell? ⟨b2,1,none⟩ = some (.int .i64 xh) := cell_of HX3.out 1
     have xz1 : w3.frozen? ⟨b2,1,none⟩ = false := free_of HX3.out 1
     have x2 : w3.cell? ⟨b2,2,none⟩ = some (.slice WA it.queue.length wcap) := cell_of HX3.out 2
     have xz2 : w3.frozen? ⟨b2,2,none⟩ = false := free_of HX3.out 2
     have x3 : w3.cell? ⟨b2,3,none⟩ = some (.slice (some ⟨g5,0,none⟩) (it.through.length + 1) cap5) := cell_of HX3.out 3
     have xz3 : w3.frozen? ⟨b2,3,none⟩ = false := free_of HX3.out 3
     have y0 : w3.cell? ⟨ib,j * 4,none⟩ = some (.int .i64 it.version) := HF3.out.cell HE0.out (by (try rw [HIT.out]); simp [hRk,Ne.symm hRk])
     have y1 : w3.cell? ⟨ib,j * 4 + 1,none⟩ = some (.int .i64 xh) := HF3.out.cell HE1.out (by (try rw [HIT.out]); simp [hRk,Ne.symm hRk])
     have y2 : w3.cell? ⟨ib,j * 4 + 2,none⟩ = some (.slice WA it.queue.length wcap) := HF3.out.cell HE2.out (by (try rw [HIT.out]); simp [hRk,Ne.symm hRk])
     have y3 : w3.cell? ⟨ib,j * 4 + 3,none⟩ = some (.slice TA it.through.length tcap) := HF3.out.cell HE3.out (by (try rw [HIT.out]); simp [hRk,Ne.symm hRk])
     have hz : ∀ o,w3.frozen? ⟨ib,o,none⟩ = false := fun o => Row.free' hrow (by rw [rits_len]; omega)
     have z0 := hz (j * 4)
     have z1 := hz (j * 4 + 1)
     have z2 := hz (j * 4 + 2)
     have z3 := hz (j * 4 + 3)
     have HROW := Lib.hid hrow
     clear hz hrow
     refine start_ (n:=9) (S:=fun w' => w'.cell? ⟨p,2,none⟩ = some (.slice (some ⟨ib,0,none⟩) its.length icap) ∧ w'.cell? ⟨b,4,none⟩ = some (.int .i64 (j : Int)) ∧ w'.cell? ⟨b2,0,none⟩ = some (.int .i64 it.version) ∧ w'.cell? ⟨b2,1,none⟩ = some (.int .i64 xh) ∧ w'.cell? ⟨b2,2,none⟩ = some (.slice WA it.queue.length wcap) ∧ w'.cell? ⟨b2,3,none⟩ = some (.slice (some ⟨g5,0,none⟩) (it.through.length + 1) cap5)) (ds := [8]) #[f_,f_,f_,f_,f_,f_,f_,f_,f_] (by kernel_rfl) rfl rfl ⟨d2,m4,x0,x1,x2,x3⟩ (fun hHeld => ?_)
     refine pv_ (i:=0) (N:=some 46) (v:=?_) (a':=?_) rfl rfl (by kernel_rfl) (fun _ _ _ h => h) (Or.inl ⟨by rfl,?_⟩) ?_ ?_
     rotate_left;intro w';go_simp;with_reducible rfl;rotate_left;simp only [Act.put,sA_,sB_,sC_,i64_w,i32_w];rfl
     refine pv_ (i:=1) (N:=some 47) (v:=?_) (a':=?_) rfl rfl (by kernel_rfl) (fun _ _ _ h => h) (Or.inl ⟨by rfl,?_⟩) ?_ ?_
     rotate_left;intro w';go_simp;with_reducible rfl;rotate_left;simp only [Act.put,sA_,sB_,sC_,i64_w,i32_w];rfl
     refine pv_ (i:=2) (N:=some 48) (v:=?_) (a':=?_) rfl rfl (by kernel_rfl) (fun _ _ _ h => h) (Or.inl ⟨by rfl,?_⟩) ?_ ?_
     rotate_left;intro w';go_simp;with_reducible rfl;rotate_left;simp only [Act.put,sA_,sB_,sC_,i64_w,i32_w];rfl
     refine pv_ (i:=4) (N:=some 50) (v:=?_) (a':=?_) rfl rfl (by kernel_rfl) (fun _ _ _ h => h) (Or.inl ⟨by rfl,?_⟩) ?_ ?_
     rotate_left;intro w';go_simp;with_reducible rfl;rotate_left;simp only [Act.put,sA_,sB_,sC_,i64_w,i32_w];rfl
     refine tv_ (i:=3) (N:=some 49) (v:=?_) (a':=?_) rfl rfl (by kernel_rfl) (fun _ _ _ h => h) (Or.inl ⟨by rfl,?_⟩) hHeld ?_ ?_
     rotate_left;rintro w' ⟨s0,s1,s2,s3,s4,s5⟩;go_simp;with_reducible rfl;rotate_left;simp only [Act.put,sA_,sB_,sC_,i64_w,i32_w];rfl
     refine tv_ (i:=5) (N:=some 51) (v:=?_) (a':=?_) rfl rfl (by kernel_rfl) (fun _ _ _ h => h) (Or.inl ⟨by rfl,?_⟩) hHeld ?_ ?_
     rotate_left;rintro w' ⟨s0,s1,s2,s3,s4,s5⟩;go_simp;with_reducible rfl;rotate_left;simp only [Act.put,sA_,sB_,sC_,i64_w,i32_w];rfl
     refine tv_ (i:=6) (N:=some 52) (v:=?_) (a':=?_) rfl rfl (by kernel_rfl) (fun _ _ _ h => h) (Or.inl ⟨by rfl,?_⟩) hHeld ?_ ?_
     rotate_left;rintro w' ⟨s0,s1,s2,s3,s4,s5⟩;go_simp;with_reducible rfl;rotate_left;simp only [Act.put,sA_,sB_,sC_,i64_w,i32_w];rfl
     refine pv_ (i:=7) (N:=some 53) (v:=?_) (a':=?_) rfl rfl (by kernel_rfl) (fun _ _ _ h => h) (Or.inl ⟨by rfl,?_⟩) ?_ ?_
     rotate_left;intro w';go_simp;with_reducible rfl;rotate_left;simp only [Act.put,sA_,sB_,sC_,i64_w,i32_w];rfl
     refine last_ (i:=8) (N:=none) #[t_,t_,t_,t_,t_,t_,t_,t_,t_] rfl rfl (by kernel_rfl) (by decide) (fun K hK => ?_)
     refine skip_ (w1:=?_) (by rfl) rfl ?_ ?_
     rotate_left
     ·go_simp
      rfl
     refine hK.out _ _ ?_
     clear hK K
     refine done_ (by kernel_rfl) ?_
     clear hHeld
     obtain ⟨w4,hW⟩ : ∃ x,x = ((((w3.setCell ⟨ib,j * 4,none⟩ (.int .i64 it.version)).setCell ⟨ib,j * 4 + 1,none⟩ (.int .i64 xh)).setCell ⟨ib,j * 4 + 2,none⟩ (.slice WA it.queue.length wcap)).setCell ⟨ib,j * 4 + 3,none⟩ (.slice (some ⟨g5,0,none⟩) (it.through.length + 1) cap5)).drew := ⟨_,rfl⟩
     rw [← hW]
     have hF : Fr (fun t => t = (k,7,(j : Int)) ∨ t = (k,3,0)) tag tag2 w w4 := by
      rw [hW]
      exact (((((HF3.out.mono (fun _ h => .inl h)).sc ib _ _ (.inr hib)).sc ib _ _ (.inr hib)).sc ib _ _ (.inr hib)).sc ib _ _ (.inr hib)).dr
     have hG : Fr (fun t => t = (k,3,0)) tag2 tag2 w3 w4 := by
      rw [hW]
      exact (((((Fr.refl HF3.out.dom).sc ib _ _ hib).sc ib _ _ hib).sc ib _ _ hib).sc ib _ _ hib).dr
     have hrow2 : Row tag2 (k,3,0) 128 4 w4 (.slice (some ⟨ib,0,none⟩) its.length icap) its.length ((its.set j ⟨it.version,xh,.slice WA it.queue.length wcap,.slice (some ⟨g5,0,none⟩) (it.through.length + 1) cap5⟩).flatMap RIt.cells) := by
      rw [hW,← rits_set its j ⟨it.version,xh,.slice WA it.queue.length wcap,.slice (some ⟨g5,0,none⟩) (it.through.length + 1) cap5⟩ hil]
      have hl := rits_len its
      exact ((((HROW.out.put_cell (j:=j * 4) (by omega) _).put_cell (j:=j * 4 + 1) (by simp only [List.length_set]; omega) _).put_cell (j:=j * 4 + 2) (by simp only [List.length_set]; omega) _).put_cell (j:=j * 4 + 3) (by simp only [List.length_set]; omega) _).drew
     have HF4 := Lib.hid hF
     have HG4 := Lib.hid hG
     have HROW4 := Lib.hid hrow2
     have HM4 := Lib.hid (hG.heap HM3.out (t0_ne HTB2.out.1 hk0))
     have HZ4 := Lib.hid (hG.heap HZ3.out (t0_ne HTB2.out.2.1 hk0))
     have hok4 := hF.dom
     clear hW hF hG hrow2 hib d2 m4 mz4 x0 xz0 x1 xz1 x2 xz2 x3 xz3 y0 y1 y2 y3 z0 z1 z2 z3
     have m0 : w4.cell? ⟨b,0,none⟩ = some (.int .i64 mk) := cell_of HM4.out 0
     have m1 : w4.cell? ⟨b,1,none⟩ = some (.int .i64 ms) := cell_of HM4.out 1
     have m2 : w4.cell? ⟨b,2,none⟩ = some (.int .i64 P.no) := cell_of HM4.out 2
     have m3 : w4.cell? ⟨b,3,none⟩ = some (.int .i64 mp) := cell_of HM4.out 3
     have m4 : w4.cell? ⟨b,4,none⟩ = some (.int .i64 (j : Int)) := cell_of HM4.out 4
     have m5 : w4.cell? ⟨b,5,none⟩ = some (.int .i64 mv) := cell_of HM4.out 5
     go_wp2_with (go_at_call 117; refine (rback_agg mk ms P.no mp (j : Int) mv 3 mp ms _ hok4).mono ?_; rintro e w7 ⟨rfl,hF7⟩; have hZ7 := hF7.heap HZ4.out (fun x => x); have hl7 := lt_of_heap hZ7; have HZ7 := Lib.hid hZ7; have r0 : w7.cell? ⟨b1,0,none⟩ = some (.slice none 0 0) := cell_of hZ7 0; have rz0 : w7.frozen? ⟨b1,0,none⟩ = false := free_of hZ7 0; have r1 : w7.cell? ⟨b1,1,none⟩ = some (.slice none 0 0) := cell_of hZ7 1; have rz1 : w7.frozen? ⟨b1,1,none⟩ = false := free_of hZ7 1; have HF7 := Lib.hid hF7; clear hZ7 hF7)
     clear m0 m1 m2 m3 m4 m5 r0 r1 rz0 rz1 hl7
     have hP : RPRep tag2 k w4 p (P.setItem j { it with through := addT mp it.through }) := H.out.set_item HJ.out HF4.out (fun t ht => by rcases ht with ht | ht <;> first | exact ht.elim | exact .inl ht | exact .inr (.inl ht) | exact .inr (.inr (.inl ht))) H1.out HL.out H5.out (x' := ⟨it.version,xh,.slice WA it.queue.length wcap,.slice (some ⟨g5,0,none⟩) (it.through.length + 1) cap5⟩) HROW4.out ⟨rfl,HXH.out,(HRW.out.fr HF4.out (by simp)),(by rw [HT2.out]; have := (HROW2.out.fr HL3.out hk0).fr HG4.out (by simp); simpa [ints] using this)⟩
     have HP := Lib.hid hP
     clear hP
     obtain ⟨wz,hwz⟩ : ∃ x,x = ((w7.setCell ⟨b1,0,none⟩ (.slice (some ⟨w7.heap.size,0,none⟩) 1 1)).setCell ⟨b1,1,none⟩ (.slice none 0 0)).alloc (.cells #[.int .i64 3,.int .i64 P.no,.int .i64 ms,.int .i64 mp,.int .i64 (j : Int),.int .i64 0] 49) := ⟨_,rfl⟩
     rw [← hwz]
     obtain ⟨k1,k2,k3,k4⟩ := post_end (HF4.out.trans HF7.out.up) (by omega) HZ7.out (R,1,0) ⟨3,P.no,ms,mp,(j : Int),0⟩ (.slice none 0 0) HTB2.out.2.1 hwz
     have rr0 := cell_of k4 0
     have rr1 := cell_of k4 1
     have rr0' : wz.cell? ⟨b1,0,none⟩ = some (.slice (some ⟨w7.heap.size,0,none⟩) 1 1) := rr0
     have rr1' : wz.cell? ⟨b1,1,none⟩ = some (.slice none 0 0) := rr1
     refine bodyPost_ret (v:=.agg #[.slice (some ⟨w7.heap.size,0,none⟩) 1 1,.slice none 0 0]) (by simp [results,Try.results82,go_sem,rr0',rr1']) rfl ?_
     clear rr0 rr1 rr0' rr1'
     rw [HMM.out]
     refine ⟨_,_,_,rfl,?_,?_,(((HP.out.frF HF7.out).fr k3 (fun r i => hk0)).congr rfl rfl rfl rfl),k1.mono (fun t h => by rcases h with h | h <;> first | exact h.elim | exact .inl (by rw [h]))⟩
     ·show Row _ _ _ _ _ _ (P.out ++ [_]).length (posts (P.out ++ [_]))
      rw [HO.out]
      exact k2
     ·show Row _ _ _ _ _ _ P.came.length (cames P.came)
      rw [HC.out]
      exact Row.nil _ _ _ _ _
   ·have HTH := Lib.hid hth
    have HWT := Lib.hid hwt
    clear hth
    have hm : askedM P ⟨mk,ms,P.no,mp,(j : Int),mv⟩ j it = P := by simp [askedM,hwt]
    have HMM := Lib.hid hm
    clear hm
    go_wp2_with (first
     | (go_at_call 115; refine (rin_val it.through mp _ _ HTH.out ((HRT.out.fr HF1.out (fun x => x)).rd (ints_one _)) (by omega)).mono ?_; rintro e w5 ⟨rfl,h5⟩; have h5 := h5.symm; subst h5)
     | (go_at_call 116; refine (rwaits_val it.queue mp _ _ HWT.out (HRW.out.fr HF1.out (fun x => x)).rd (by omega)).mono ?_; rintro e w5 ⟨rfl,h5⟩; have h5 := h5.symm; subst h5))
    obtain ⟨wz,hwz⟩ : ∃ yy,yy = (w1.setCell ⟨b1,0,none⟩ (.slice none 0 0)).setCell ⟨b1,1,none⟩ (.slice none 0 0) := ⟨_,rfl⟩
    rw [← hwz]
    have hzz : wz.heap[b1]? = some (.cells #[.slice none 0 0,.slice none 0 0] 41 (0,0)) := by
     rw [hwz,Go.Ng.heap_setCell_same (Go.Ng.heap_setCell_same HZ1.out 0 _) 1 _]
     rfl
    have rr0 : wz.cell? ⟨b1,0,none⟩ = some (.slice none 0 0) := cell_of hzz 0
    have rr1 : wz.cell? ⟨b1,1,none⟩ = some (.slice none 0 0) := cell_of hzz 1
    refine bodyPost_ret (v:=.agg #[.slice none 0 0,.slice none 0 0]) (by simp [results,Try.results82,go_sem,rr0,rr1]) rfl ?_
    clear rr0 rr1
    rw [HMM.out]
    refine ⟨_,_,tag,rfl,by rw [HO.out]; exact Row.nil _ _ _ _ _,by rw [HC.out]; exact Row.nil _ _ _ _ _,?_,by rw [hwz]; exact ((HF1.out.up.scn (by omega) _ _).scn (by omega) _ _)⟩
    rw [hwz]
    exact H.out.fr ((HF1.out.up (S:=fun t => t.1 = 0)).trans (((Fr.refl hok1).sc b1 _ _ HTB.out.2.1).sc b1 _ _ HTB.out.2.1)) (fun r i => hk0)
  ·have HTH := Lib.hid hth
   have hh2 := hho
   rw [HHP.out] at hh2
   simp only [Bool.and_eq_true,beq_iff_eq] at hh2
   clear hth
   have hm : askedM P ⟨mk,ms,P.no,mp,(j : Int),mv⟩ j it = P := by simp [askedM,hh2]
   have HMM := Lib.hid hm
   clear hm hh2
   go_wp2_with (go_at_call 115; refine (rin_val it.through mp _ _ HTH.out ((HRT.out.fr HF1.out (fun x => x)).rd (ints_one _)) (by omega)).mono ?_; rintro e w5 ⟨rfl,h5⟩; have h5 := h5.symm; subst h5)
   obtain ⟨wz,hwz⟩ : ∃ yy,yy = (w1.setCell ⟨b1,0,none⟩ (.slice none 0 0)).setCell ⟨b1,1,none⟩ (.slice none 0 0) := ⟨_,rfl⟩
   rw [← hwz]
   have hzz : wz.heap[b1]? = some (.cells #[.slice none 0 0,.slice none 0 0] 41 (0,0)) := by
    rw [hwz,Go.Ng.heap_setCell_same (Go.Ng.heap_setCell_same HZ1.out 0 _) 1 _]
    rfl
   have rr0 : wz.cell? ⟨b1,0,none⟩ = some (.slice none 0 0) := cell_of hzz 0
   have rr1 : wz.cell? ⟨b1,1,none⟩ = some (.slice none 0 0) := cell_of hzz 1
   refine bodyPost_ret (v:=.agg #[.slice none 0 0,.slice none 0 0]) (by simp [results,Try.results82,go_sem,rr0,rr1]) rfl ?_
   clear rr0 rr1
   rw [HMM.out]
   refine ⟨_,_,tag,rfl,by rw [HO.out]; exact Row.nil _ _ _ _ _,by rw [HC.out]; exact Row.nil _ _ _ _ _,?_,by rw [hwz]; exact ((HF1.out.up.scn (by omega) _ _).scn (by omega) _ _)⟩
   rw [hwz]
   exact H.out.fr ((HF1.out.up (S:=fun t => t.1 = 0)).trans (((Fr.refl hok1).sc b1 _ _ HTB.out.2.1).sc b1 _ _ HTB.out.2.1)) (fun r i => hk0)
 ·have HTH := Lib.hid hth
  have hm : askedM P ⟨mk,ms,P.no,mp,(j : Int),mv⟩ j it = P := by simp [askedM,of_decide_eq_true hth]
  have HMM := Lib.hid hm
  clear hm hth
  go_wp2_with (go_at_call 115; refine (rin_val it.through mp _ _ HTH.out ((HRT.out.fr HF1.out (fun x => x)).rd (ints_one _)) (by omega)).mono ?_; rintro e w5 ⟨rfl,h5⟩; have h5 := h5.symm; subst h5)
  obtain ⟨wz,hwz⟩ : ∃ yy,yy = (w1.setCell ⟨b1,0,none⟩ (.slice none 0 0)).setCell ⟨b1,1,none⟩ (.slice none 0 0) := ⟨_,rfl⟩
  rw [← hwz]
  have hzz : wz.heap[b1]? = some (.cells #[.slice none 0 0,.slice none 0 0] 41 (0,0)) := by
   rw [hwz,Go.Ng.heap_setCell_same (Go.Ng.heap_setCell_same HZ1.out 0 _) 1 _]
   rfl
  have rr0 : wz.cell? ⟨b1,0,none⟩ = some (.slice none 0 0) := cell_of hzz 0
  have rr1 : wz.cell? ⟨b1,1,none⟩ = some (.slice none 0 0) := cell_of hzz 1
  refine bodyPost_ret (v:=.agg #[.slice none 0 0,.slice none 0 0]) (by simp [results,Try.results82,go_sem,rr0,rr1]) rfl ?_
  clear rr0 rr1
  rw [HMM.out]
  refine ⟨_,_,tag,rfl,by rw [HO.out]; exact Row.nil _ _ _ _ _,by rw [HC.out]; exact Row.nil _ _ _ _ _,?_,by rw [hwz]; exact ((HF1.out.up.scn (by omega) _ _).scn (by omega) _ _)⟩
  rw [hwz]
  exact H.out.fr ((HF1.out.up (S:=fun t => t.1 = 0)).trans (((Fr.refl hok1).sc b1 _ _ HTB.out.2.1).sc b1 _ _ HTB.out.2.1)) (fun r i => hk0)
end
end Go.Proofs.Ytclkokkppgchfaa
