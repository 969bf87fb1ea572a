/- A part of the proof: texts of this session, joined. -/
import Derived.Test.YtjojbhkgdkcaoaaGreatBehOrderOwn8
import Derived.Test.YtjojbhkgdkcaoaaGreatShort
set_option linter.unusedSimpArgs false
set_option linter.unusedVariables false
set_option maxHeartbeats 12800000
set_option maxRecDepth 100000
namespace Go.Bh
mutual
def cmpT : Tm → Tm → Int
  | .mk k n l,.mk k' n' l' => if orI [cmpI k k',cmpI n n',cmpI l.length l'.length] = 0 then cmpTs l l' else orI [cmpI k k',cmpI n n',cmpI l.length l'.length]
def cmpTs : List Tm → List Tm → Int
  | [],[] => 0
  | [],_ :: _ => -1
  | _ :: _,[] => 1
  | x :: a,y :: b => if cmpT x y = 0 then cmpTs a b else cmpT x y
end
theorem cmpTs_eq : ∀ (a b : List Tm),cmpTs a b = lexC cmpT a b
  | [],[] => by rw [cmpTs,lexC]
  | [],_ :: _ => by rw [cmpTs,lexC]
  | _ :: _,[] => by rw [cmpTs,lexC]
  | x :: a,y :: b => by rw [cmpTs,lexC,cmpTs_eq a b]
theorem cmpI_rng (x y : Int) : InR (cmpI x y) := by unfold InR cmpI; split <;> (try split) <;> omega
end Go.Bh
namespace Go.Proofs.YtjojbhkgdkcaoaaGreat
open Go Go.RowKit Go.Bh Go.Shelf Go.Proofs.YtjojbhkgdkcaoaaGreatW.PrintLast
theorem ca {w : World} {a : Addr} {v : Value} (h : w.cell? a = some v) (o : Obj) : (w.alloc o).cell? a = some v := (World.grownBy_alloc w o none).cell h (by simp)
theorem is_of (w : World) (g n cap : Nat) (l : List Int) (hr : ∀ x ∈ l,InR x) (hl : l.length = n) (hn : n ≤ cap) (hc : cap ≤ maxLen) (h : ∀ j x,l[j]? = some x → w.cell? ⟨g,j,none⟩ = some (.int .i64 x)) : Is w l (.slice (some ⟨g,0,none⟩) n cap) := by
  subst hl
  refine ⟨_,cap,rfl,hn,hc,.inr ⟨g,0,rfl,trivial,CAt.of _ 0 fun j x hx => ?_⟩⟩
  rw [ints,List.getElem?_map] at hx
  cases hj : l[j]? with
  | none => rw [hj] at hx; cases hx
  | some y =>
    rw [hj] at hx
    injection hx with hx
    subst hx
    exact ⟨_,by rw [Nat.zero_add]; exact h j y hj,rfl,hr y (List.mem_of_getElem? hj)⟩
theorem lists107_ok {w : World} {va vb : Value} {f : FuncId} (hf : FnIs Tryz.prog f) (c : Off → Off → Int) {a b : List Off} (ha : OsP (fun _ => True) w a va) (hb : OsP (fun _ => True) w b vb)
    (hc : ∀ (i : Nat) (x0 : Bool) (x1 : Int) (x2 : Int) (x3 : Int) (x4 : List Tm) (y0 : Bool) (y1 : Int) (y2 : Int) (y3 : Int) (y4 : List Tm),a[i]? = some (⟨x0,x1,.mk x2 x3 x4⟩) → b[i]? = some (⟨y0,y1,.mk y2 y3 y4⟩) → ∀ (W : World) (A4 B4 : Option Addr) (c4 d4 : Nat),Below w.heap.size w W → TsP (fun _ => True) W x4 (.slice A4 x4.length c4) → TsP (fun _ => True) W y4 (.slice B4 y4.length d4) → Calls Tryz.prog f #[.agg #[.bool x0,.int .i64 x1,.int .i64 x2,.int .i64 x3,.slice A4 x4.length c4],.agg #[.bool y0,.int .i64 y1,.int .i64 y2,.int .i64 y3,.slice B4 y4.length d4]] W fun e W' => e = .returned (.int .i64 (c (⟨x0,x1,.mk x2 x3 x4⟩) (⟨y0,y1,.mk y2 y3 y4⟩))) ∧ Below W.heap.size W W') :
    Calls Tryz.prog 107 #[va,vb,.func (.func f) #[] #[]] w fun e w' => e = .returned (.int .i64 (lexC c a b)) ∧ Below w.heap.size w w' := by
  have HC := Lib.hid (cmpF172_ok hf c ha hb hc)
  obtain ⟨A,acap,rfl,h1,h2⟩ := VAt.slice ha
  obtain ⟨B,bcap,rfl,h3,h4⟩ := VAt.slice hb
  clear ha hb hc
  go_enter Tryz.func107,Tryz.ntmps107
  go_wp2_with (
    go_at_call 172
    refine HC.out.mono ?_
    rintro e w' ⟨rfl,hb⟩
    have HB := Lib.hid hb
    clear hb)
  go_ret
  exact ⟨rfl,HB.out⟩
theorem lists109_ok {w : World} {va vb : Value} {f : FuncId} (hf : FnIs Tryz.prog f) (c : Pr → Pr → Int) {a b : List Pr} (ha : PsP (fun _ => True) w a va) (hb : PsP (fun _ => True) w b vb)
    (hc : ∀ (i : Nat) (x0 : Int) (x1 : Int) (x2 : List Tm) (x3 : Int) (x4 : Int) (x5 : List Tm) (y0 : Int) (y1 : Int) (y2 : List Tm) (y3 : Int) (y4 : Int) (y5 : List Tm),a[i]? = some (⟨.mk x0 x1 x2,.mk x3 x4 x5⟩) → b[i]? = some (⟨.mk y0 y1 y2,.mk y3 y4 y5⟩) → ∀ (W : World) (A2 B2 : Option Addr) (c2 d2 : Nat) (A5 B5 : Option Addr) (c5 d5 : Nat),Below w.heap.size w W → TsP (fun _ => True) W x2 (.slice A2 x2.length c2) → TsP (fun _ => True) W y2 (.slice B2 y2.length d2) → TsP (fun _ => True) W x5 (.slice A5 x5.length c5) → TsP (fun _ => True) W y5 (.slice B5 y5.length d5) → Calls Tryz.prog f #[.agg #[.int .i64 x0,.int .i64 x1,.slice A2 x2.length c2,.int .i64 x3,.int .i64 x4,.slice A5 x5.length c5],.agg #[.int .i64 y0,.int .i64 y1,.slice B2 y2.length d2,.int .i64 y3,.int .i64 y4,.slice B5 y5.length d5]] W fun e W' => e = .returned (.int .i64 (c (⟨.mk x0 x1 x2,.mk x3 x4 x5⟩) (⟨.mk y0 y1 y2,.mk y3 y4 y5⟩))) ∧ Below W.heap.size W W') :
    Calls Tryz.prog 109 #[va,vb,.func (.func f) #[] #[]] w fun e w' => e = .returned (.int .i64 (lexC c a b)) ∧ Below w.heap.size w w' := by
  have HC := Lib.hid (cmpF173_ok hf c ha hb hc)
  obtain ⟨A,acap,rfl,h1,h2⟩ := VAt.slice ha
  obtain ⟨B,bcap,rfl,h3,h4⟩ := VAt.slice hb
  clear ha hb hc
  go_enter Tryz.func109,Tryz.ntmps109
  go_wp2_with (
    go_at_call 173
    refine HC.out.mono ?_
    rintro e w' ⟨rfl,hb⟩
    have HB := Lib.hid hb
    clear hb)
  go_ret
  exact ⟨rfl,HB.out⟩
theorem lists111_ok {w : World} {va vb : Value} {f : FuncId} (hf : FnIs Tryz.prog f) (c : Tm → Tm → Int) {a b : List Tm} (ha : TsP (fun _ => True) w a va) (hb : TsP (fun _ => True) w b vb)
    (hc : ∀ (i : Nat) (x0 : Int) (x1 : Int) (x2 : List Tm) (y0 : Int) (y1 : Int) (y2 : List Tm),a[i]? = some (.mk x0 x1 x2) → b[i]? = some (.mk y0 y1 y2) → ∀ (W : World) (A2 B2 : Option Addr) (c2 d2 : Nat),Below w.heap.size w W → TsP (fun _ => True) W x2 (.slice A2 x2.length c2) → TsP (fun _ => True) W y2 (.slice B2 y2.length d2) → Calls Tryz.prog f #[.agg #[.int .i64 x0,.int .i64 x1,.slice A2 x2.length c2],.agg #[.int .i64 y0,.int .i64 y1,.slice B2 y2.length d2]] W fun e W' => e = .returned (.int .i64 (c (.mk x0 x1 x2) (.mk y0 y1 y2))) ∧ Below W.heap.size W W') :
    Calls Tryz.prog 111 #[va,vb,.func (.func f) #[] #[]] w fun e w' => e = .returned (.int .i64 (lexC c a b)) ∧ Below w.heap.size w w' := by
  have HC := Lib.hid (cmpF174_ok hf c ha hb hc)
  obtain ⟨A,acap,rfl,h1,h2⟩ := VAt.slice ha
  obtain ⟨B,bcap,rfl,h3,h4⟩ := VAt.slice hb
  clear ha hb hc
  go_enter Tryz.func111,Tryz.ntmps111
  go_wp2_with (
    go_at_call 174
    refine HC.out.mono ?_
    rintro e w' ⟨rfl,hb⟩
    have HB := Lib.hid hb
    clear hb)
  go_ret
  exact ⟨rfl,HB.out⟩
theorem lists113_ok {w : World} {va vb : Value} {f : FuncId} (hf : FnIs Tryz.prog f) (c : Be → Be → Int) {a b : List Be} (ha : BsP (fun _ => True) w a va) (hb : BsP (fun _ => True) w b vb)
    (hc : ∀ (i : Nat) (x0 : Int) (x1 : Int) (x2 : Int) (x3 : Int) (x4 : Int) (x5 : List Int) (x6 : List Off) (x7 : List Pr) (x8 : List Int) (x9 : List Tm) (x10 : List Be) (y0 : Int) (y1 : Int) (y2 : Int) (y3 : Int) (y4 : Int) (y5 : List Int) (y6 : List Off) (y7 : List Pr) (y8 : List Int) (y9 : List Tm) (y10 : List Be),a[i]? = some (.mk x0 x1 x2 x3 x4 x5 x6 x7 x8 x9 x10) → b[i]? = some (.mk y0 y1 y2 y3 y4 y5 y6 y7 y8 y9 y10) → ∀ (W : World) (A5 B5 : Option Addr) (c5 d5 : Nat) (A6 B6 : Option Addr) (c6 d6 : Nat) (A7 B7 : Option Addr) (c7 d7 : Nat) (A8 B8 : Option Addr) (c8 d8 : Nat) (A9 B9 : Option Addr) (c9 d9 : Nat) (A10 B10 : Option Addr) (c10 d10 : Nat),Below w.heap.size w W → IsP (fun _ => True) W x5 (.slice A5 x5.length c5) → IsP (fun _ => True) W y5 (.slice B5 y5.length d5) → OsP (fun _ => True) W x6 (.slice A6 x6.length c6) → OsP (fun _ => True) W y6 (.slice B6 y6.length d6) → PsP (fun _ => True) W x7 (.slice A7 x7.length c7) → PsP (fun _ => True) W y7 (.slice B7 y7.length d7) → IsP (fun _ => True) W x8 (.slice A8 x8.length c8) → IsP (fun _ => True) W y8 (.slice B8 y8.length d8) → TsP (fun _ => True) W x9 (.slice A9 x9.length c9) → TsP (fun _ => True) W y9 (.slice B9 y9.length d9) → BsP (fun _ => True) W x10 (.slice A10 x10.length c10) → BsP (fun _ => True) W y10 (.slice B10 y10.length d10) → Calls Tryz.prog f #[.agg #[.int .i64 x0,.int .i64 x1,.int .i64 x2,.int .i64 x3,.int .i64 x4,.slice A5 x5.length c5,.slice A6 x6.length c6,.slice A7 x7.length c7,.slice A8 x8.length c8,.slice A9 x9.length c9,.slice A10 x10.length c10],.agg #[.int .i64 y0,.int .i64 y1,.int .i64 y2,.int .i64 y3,.int .i64 y4,.slice B5 y5.length d5,.slice B6 y6.length d6,.slice B7 y7.length d7,.slice B8 y8.length d8,.slice B9 y9.length d9,.slice B10 y10.length d10]] W fun e W' => e = .returned (.int .i64 (c (.mk x0 x1 x2 x3 x4 x5 x6 x7 x8 x9 x10) (.mk y0 y1 y2 y3 y4 y5 y6 y7 y8 y9 y10))) ∧ Below W.heap.size W W') :
    Calls Tryz.prog 113 #[va,vb,.func (.func f) #[] #[]] w fun e w' => e = .returned (.int .i64 (lexC c a b)) ∧ Below w.heap.size w w' := by
  have HC := Lib.hid (cmpF175_ok hf c ha hb hc)
  obtain ⟨A,acap,rfl,h1,h2⟩ := VAt.slice ha
  obtain ⟨B,bcap,rfl,h3,h4⟩ := VAt.slice hb
  clear ha hb hc
  go_enter Tryz.func113,Tryz.ntmps113
  go_wp2_with (
    go_at_call 175
    refine HC.out.mono ?_
    rintro e w' ⟨rfl,hb⟩
    have HB := Lib.hid hb
    clear hb)
  go_ret
  exact ⟨rfl,HB.out⟩
theorem fnIs112 : FnIs Tryz.prog 112 := ⟨_,Tryz.func112,by kernel_rfl,rfl⟩
theorem cmpT_ok : ∀ (x y : Tm) (w : World) (u v : Value),Ts w x.l u → Ts w y.l v →
    Calls Tryz.prog 112 #[.agg #[.int .i64 x.k,.int .i64 x.n,u],.agg #[.int .i64 y.k,.int .i64 y.n,v]] w fun e w' => e = .returned (.int .i64 (cmpT x y)) ∧ Below w.heap.size w w' := by
  refine Tm.ind fun k n l ih => ?_
  rintro ⟨k',n',l'⟩ w u v hu hv
  dsimp only [Tm.k,Tm.n,Tm.l] at hu hv ⊢
  obtain ⟨A,acap,rfl,h1,h2⟩ := hu.slice
  obtain ⟨B,bcap,rfl,h3,h4⟩ := hv.slice
  unfold maxLen at h2 h4
  have HU := Lib.hid hu
  have HV := Lib.hid hv
  have IH := Lib.hid ih
  obtain ⟨r,hr⟩ : ∃ r,r = orI [cmpI k k',cmpI n n',cmpI l.length l'.length] := ⟨_,rfl⟩
  have HR := Lib.hid hr
  have HE := Lib.hid (show cmpT (.mk k n l) (.mk k' n' l') = if r = 0 then lexC cmpT l l' else r by rw [hr,cmpT,cmpTs_eq])
  obtain ⟨res,hres⟩ : ∃ z,z = cmpT (.mk k n l) (.mk k' n' l') := ⟨_,rfl⟩
  rw [← hres] at HE ⊢
  clear hr hu hv ih hres
  obtain ⟨r1,hr1⟩ : ∃ z,z = cmpI k k' := ⟨_,rfl⟩
  obtain ⟨r2,hr2⟩ : ∃ z,z = cmpI n n' := ⟨_,rfl⟩
  obtain ⟨r3,hr3⟩ : ∃ z,z = cmpI l.length l'.length := ⟨_,rfl⟩
  have HC1 := Lib.hid (fun W => cmpI_ok k k' W)
  have HC2 := Lib.hid (fun W => cmpI_ok n n' W)
  have HC3 := Lib.hid (fun W => cmpI_ok l.length l'.length W)
  have HQ : Hid (InR r1 ∧ InR r2 ∧ InR r3) := Lib.hid ⟨by rw [hr1]; exact cmpI_rng _ _,by rw [hr2]; exact cmpI_rng _ _,by rw [hr3]; exact cmpI_rng _ _⟩
  rw [← hr1,← hr2,← hr3] at HR
  rw [← hr1] at HC1
  rw [← hr2] at HC2
  rw [← hr3] at HC3
  clear hr1 hr2 hr3
  go_enter Tryz.func112,Tryz.ntmps112
  go_upto_region 1 with fail
  obtain ⟨W1,hW1⟩ : ∃ y,y = (w.alloc (.cells #[.int .i64 k,.int .i64 n,.slice A l.length acap] 62)).alloc (.cells #[.int .i64 k',.int .i64 n',.slice B l'.length bcap] 62) := ⟨_,rfl⟩
  rw [← hW1]
  have hz1 : W1.heap.size = w.heap.size + 2 := by rw [hW1]; simp
  have hb1 : Below w.heap.size w W1 := by rw [hW1]; exact ((Below.refl _ w).alloc (Nat.le_refl _) _).alloc (by simp) _
  have h0 : W1.heap[w.heap.size]? = some (.cells #[.int .i64 k,.int .i64 n,.slice A l.length acap] 62) := by rw [hW1]; exact (Below.heap_alloc _ _ _ (by simp)).trans (World.alloc_heap_new w _)
  have h1 : W1.heap[w.heap.size + 1]? = some (.cells #[.int .i64 k',.int .i64 n',.slice B l'.length bcap] 62) := by rw [hW1]; have := World.alloc_heap_new (w.alloc (.cells #[.int .i64 k,.int .i64 n,.slice A l.length acap] 62)) (.cells #[.int .i64 k',.int .i64 n',.slice B l'.length bcap] 62); simpa using this
  clear hW1
  have a0 : W1.cell? ⟨w.heap.size,0,none⟩ = some (.int .i64 k) := cell_at h0 0 rfl
  have a1 : W1.cell? ⟨w.heap.size,1,none⟩ = some (.int .i64 n) := cell_at h0 1 rfl
  have a2 : W1.cell? ⟨w.heap.size,2,none⟩ = some (.slice A l.length acap) := cell_at h0 2 rfl
  have b0 : W1.cell? ⟨w.heap.size + 1,0,none⟩ = some (.int .i64 k') := cell_at h1 0 rfl
  have b1 : W1.cell? ⟨w.heap.size + 1,1,none⟩ = some (.int .i64 n') := cell_at h1 1 rfl
  have b2 : W1.cell? ⟨w.heap.size + 1,2,none⟩ = some (.slice B l'.length bcap) := cell_at h1 2 rfl
  have HB1 := Lib.hid hb1
  have HIS : Hid (Is (W1.alloc (.cells #[.int .i64 r1,.int .i64 r2,.int .i64 r3] 3)).drew [r1,r2,r3] (.slice (some ⟨W1.heap.size,0,none⟩) 3 3)) := Lib.hid (is_of _ W1.heap.size 3 3 [r1,r2,r3] (by intro x hx; simp at hx; rcases hx with rfl | rfl | rfl; exact HQ.out.1; exact HQ.out.2.1; exact HQ.out.2.2) rfl (Nat.le_refl _) (by unfold maxLen; omega) (fun j x h => by
    show (W1.alloc (.cells #[.int .i64 r1,.int .i64 r2,.int .i64 r3] 3)).cell? _ = _
    rw [cell_of_row _ _ _ _ _ _ (World.alloc_heap_new W1 _)]
    match j,h with
    | 0,h => simp at h; subst h; rfl
    | 1,h => simp at h; subst h; rfl
    | 2,h => simp at h; subst h; rfl
    | (j + 3),h => simp at h))
  have HB2 : Hid (Below w.heap.size w (W1.alloc (.cells #[.int .i64 r1,.int .i64 r2,.int .i64 r3] 3)).drew) := Lib.hid ((hb1.alloc hb1.size _).drew)
  clear h0 h1 hb1 hz1
  refine start_ (n:=20) (S:=fun w' => w'.cell? ⟨w.heap.size,0,none⟩ = some (.int .i64 k) ∧ w'.cell? ⟨w.heap.size,1,none⟩ = some (.int .i64 n) ∧ w'.cell? ⟨w.heap.size,2,none⟩ = some (.slice A l.length acap) ∧ w'.cell? ⟨w.heap.size + 1,0,none⟩ = some (.int .i64 k') ∧ w'.cell? ⟨w.heap.size + 1,1,none⟩ = some (.int .i64 n') ∧ w'.cell? ⟨w.heap.size + 1,2,none⟩ = some (.slice B l'.length bcap)) (ds := []) #[f_,f_,f_,f_,f_,f_,f_,f_,f_,f_,f_,f_,f_,f_,f_,f_,f_,f_,f_,f_] (by kernel_rfl) rfl rfl ⟨a0,a1,a2,b0,b1,b2⟩ (fun hHeld => ?_)
  refine pv_ (i:=0) (N:=some 6) (v:=?_) (a':=?_) rfl rfl (by kernel_rfl) (fun _ _ _ h => h) (Or.inl ⟨by rfl,?_⟩) ?_ ?_
  rotate_left;intro w';go_simp;with_reducible rfl;rotate_left;simp only [Act.put,sA_,sB_,sC_,i64_w,i32_w];rfl
  refine pv_ (i:=2) (N:=some 8) (v:=?_) (a':=?_) rfl rfl (by kernel_rfl) (fun _ _ _ h => h) (Or.inl ⟨by rfl,?_⟩) ?_ ?_
  rotate_left;intro w';go_simp;with_reducible rfl;rotate_left;simp only [Act.put,sA_,sB_,sC_,i64_w,i32_w];rfl
  refine pv_ (i:=5) (N:=some 11) (v:=?_) (a':=?_) rfl rfl (by kernel_rfl) (fun _ _ _ h => h) (Or.inl ⟨by rfl,?_⟩) ?_ ?_
  rotate_left;intro w';go_simp;with_reducible rfl;rotate_left;simp only [Act.put,sA_,sB_,sC_,i64_w,i32_w];rfl
  refine pv_ (i:=7) (N:=some 13) (v:=?_) (a':=?_) rfl rfl (by kernel_rfl) (fun _ _ _ h => h) (Or.inl ⟨by rfl,?_⟩) ?_ ?_
  rotate_left;intro w';go_simp;with_reducible rfl;rotate_left;simp only [Act.put,sA_,sB_,sC_,i64_w,i32_w];rfl
  refine pv_ (i:=10) (N:=some 16) (v:=?_) (a':=?_) rfl rfl (by kernel_rfl) (fun _ _ _ h => h) (Or.inl ⟨by rfl,?_⟩) ?_ ?_
  rotate_left;intro w';go_simp;with_reducible rfl;rotate_left;simp only [Act.put,sA_,sB_,sC_,i64_w,i32_w];rfl
  refine pv_ (i:=13) (N:=some 19) (v:=?_) (a':=?_) rfl rfl (by kernel_rfl) (fun _ _ _ h => h) (Or.inl ⟨by rfl,?_⟩) ?_ ?_
  rotate_left;intro w';go_simp;with_reducible rfl;rotate_left;simp only [Act.put,sA_,sB_,sC_,i64_w,i32_w];rfl
  refine tv_ (i:=1) (N:=some 7) (v:=?_) (a':=?_) rfl rfl (by kernel_rfl) (fun _ _ _ h => h) (Or.inl ⟨by rfl,?_⟩) hHeld ?_ ?_
  rotate_left;rintro w' ⟨s0,s1,s2,s3,s4,s5⟩;go_simp;with_reducible rfl;rotate_left;simp only [Act.put,sA_,sB_,sC_,i64_w,i32_w];rfl
  refine tv_ (i:=3) (N:=some 9) (v:=?_) (a':=?_) rfl rfl (by kernel_rfl) (fun _ _ _ h => h) (Or.inl ⟨by rfl,?_⟩) hHeld ?_ ?_
  rotate_left;rintro w' ⟨s0,s1,s2,s3,s4,s5⟩;go_simp;with_reducible rfl;rotate_left;simp only [Act.put,sA_,sB_,sC_,i64_w,i32_w];rfl
  refine tv_ (i:=6) (N:=some 12) (v:=?_) (a':=?_) rfl rfl (by kernel_rfl) (fun _ _ _ h => h) (Or.inl ⟨by rfl,?_⟩) hHeld ?_ ?_
  rotate_left;rintro w' ⟨s0,s1,s2,s3,s4,s5⟩;go_simp;with_reducible rfl;rotate_left;simp only [Act.put,sA_,sB_,sC_,i64_w,i32_w];rfl
  refine tv_ (i:=8) (N:=some 14) (v:=?_) (a':=?_) rfl rfl (by kernel_rfl) (fun _ _ _ h => h) (Or.inl ⟨by rfl,?_⟩) hHeld ?_ ?_
  rotate_left;rintro w' ⟨s0,s1,s2,s3,s4,s5⟩;go_simp;with_reducible rfl;rotate_left;simp only [Act.put,sA_,sB_,sC_,i64_w,i32_w];rfl
  refine tv_ (i:=11) (N:=some 17) (v:=?_) (a':=?_) rfl rfl (by kernel_rfl) (fun _ _ _ h => h) (Or.inl ⟨by rfl,?_⟩) hHeld ?_ ?_
  rotate_left;rintro w' ⟨s0,s1,s2,s3,s4,s5⟩;go_simp;with_reducible rfl;rotate_left;simp only [Act.put,sA_,sB_,sC_,i64_w,i32_w];rfl
  refine pv_ (i:=12) (N:=some 18) (v:=?_) (a':=?_) rfl rfl (by kernel_rfl) (fun _ _ _ h => h) (Or.inl ⟨by rfl,?_⟩) ?_ ?_
  rotate_left;intro w';go_simp;with_reducible rfl;rotate_left;simp only [Act.put,sA_,sB_,sC_,i64_w,i32_w];rfl
  refine tv_ (i:=14) (N:=some 20) (v:=?_) (a':=?_) rfl rfl (by kernel_rfl) (fun _ _ _ h => h) (Or.inl ⟨by rfl,?_⟩) hHeld ?_ ?_
  rotate_left;rintro w' ⟨s0,s1,s2,s3,s4,s5⟩;go_simp;with_reducible rfl;rotate_left;simp only [Act.put,sA_,sB_,sC_,i64_w,i32_w];rfl
  refine pv_ (i:=15) (N:=some 21) (v:=?_) (a':=?_) rfl rfl (by kernel_rfl) (fun _ _ _ h => h) (Or.inl ⟨by rfl,?_⟩) ?_ ?_
  rotate_left;intro w';go_simp;with_reducible rfl;rotate_left;simp only [Act.put,sA_,sB_,sC_,i64_w,i32_w];rfl
  refine one_ (i:=4) (N:=some 10) #[t_,t_,t_,t_,t_,t_,t_,t_,t_,f_,t_,t_,t_,t_,t_,t_,f_,f_,f_,f_] rfl rfl (by kernel_rfl) (by decide) (fun K hK => ?_)
  refine goes_ Tryz.func114 (by kernel_rfl) rfl #[.int .i64 k,.int .i64 k'] (by rfl) rfl rfl (by simp only [List.map_toArray,List.map_cons,List.map_nil]; rfl) ?_
  refine (HC1.out _).mono ?_
  rintro e w2 ⟨rfl,rfl⟩
  refine ⟨_,rfl,?_⟩
  refine hK.out _ _ ⟨hHeld.1,hHeld.2.1,hHeld.2.2.1,hHeld.2.2.2.1,hHeld.2.2.2.2.1,hHeld.2.2.2.2.2⟩ (fun hHeld => ?_)
  clear hK K
  refine norm_ (a':=?_) ?_ ?_
  rotate_left
  · show Act.put _ (some 10) _ = _
    simp only [Act.put,sA_,sB_,sC_,i64_w,i32_w]
    rfl
  refine one_ (i:=9) (N:=some 15) #[t_,t_,t_,t_,t_,t_,t_,t_,t_,t_,t_,t_,t_,t_,t_,t_,f_,f_,f_,f_] rfl rfl (by kernel_rfl) (by decide) (fun K hK => ?_)
  refine goes_ Tryz.func114 (by kernel_rfl) rfl #[.int .i64 n,.int .i64 n'] (by rfl) rfl rfl (by simp only [List.map_toArray,List.map_cons,List.map_nil]; rfl) ?_
  refine (HC2.out _).mono ?_
  rintro e w2 ⟨rfl,rfl⟩
  refine ⟨_,rfl,?_⟩
  refine hK.out _ _ ⟨hHeld.1,hHeld.2.1,hHeld.2.2.1,hHeld.2.2.2.1,hHeld.2.2.2.2.1,hHeld.2.2.2.2.2⟩ (fun hHeld => ?_)
  clear hK K
  refine norm_ (a':=?_) ?_ ?_
  rotate_left
  · show Act.put _ (some 15) _ = _
    simp only [Act.put,sA_,sB_,sC_,i64_w,i32_w]
    rfl
  refine one_ (i:=16) (N:=some 22) #[t_,t_,t_,t_,t_,t_,t_,t_,t_,t_,t_,t_,t_,t_,t_,t_,t_,f_,f_,f_] rfl rfl (by kernel_rfl) (by decide) (fun K hK => ?_)
  refine goes_ Tryz.func114 (by kernel_rfl) rfl #[.int .i64 l.length,.int .i64 l'.length] (by rfl) rfl rfl (by simp only [List.map_toArray,List.map_cons,List.map_nil]; rfl) ?_
  refine (HC3.out _).mono ?_
  rintro e w2 ⟨rfl,rfl⟩
  refine ⟨_,rfl,?_⟩
  refine hK.out _ _ ⟨hHeld.1,hHeld.2.1,hHeld.2.2.1,hHeld.2.2.2.1,hHeld.2.2.2.2.1,hHeld.2.2.2.2.2⟩ (fun hHeld => ?_)
  clear hK K
  refine norm_ (a':=?_) ?_ ?_
  rotate_left
  · show Act.put _ (some 22) _ = _
    simp only [Act.put,sA_,sB_,sC_,i64_w,i32_w]
    rfl
  refine one_ (i:=17) (N:=some 23) #[t_,t_,t_,t_,t_,t_,t_,t_,t_,t_,t_,t_,t_,t_,t_,t_,t_,t_,f_,f_] rfl rfl (by kernel_rfl) (by decide) (fun K hK => ?_)
  refine value_ (w1:=?_) (v:=?_) (by rfl) rfl ?_ ?_
  rotate_left 2
  · go_simp
    constructor
    · rfl
    · rfl
  refine hK.out _ _ ⟨(ca hHeld.1 _),(ca hHeld.2.1 _),(ca hHeld.2.2.1 _),(ca hHeld.2.2.2.1 _),(ca hHeld.2.2.2.2.1 _),(ca hHeld.2.2.2.2.2 _)⟩ (fun hHeld => ?_)
  clear hK K
  refine norm_ (a':=?_) ?_ ?_
  rotate_left
  · show Act.put _ (some 23) _ = _
    simp only [Act.put,sA_,sB_,sC_,i64_w,i32_w]
    rfl
  refine one_ (i:=18) (N:=some 24) #[t_,t_,t_,t_,t_,t_,t_,t_,t_,t_,t_,t_,t_,t_,t_,t_,t_,t_,t_,f_] rfl rfl (by kernel_rfl) (by decide) (fun K hK => ?_)
  refine goes_ Tryz.func106 (by kernel_rfl) rfl #[.slice (some ⟨W1.heap.size,0,none⟩) 3 3] (by rfl) rfl rfl (by simp only [List.map_toArray,List.map_cons,List.map_nil]; rfl) ?_
  refine (orI_ok [r1,r2,r3] _ _ HIS.out).mono ?_
  rintro e w2 ⟨rfl,rfl⟩
  refine ⟨_,rfl,?_⟩
  refine hK.out _ _ ⟨hHeld.1,hHeld.2.1,hHeld.2.2.1,hHeld.2.2.2.1,hHeld.2.2.2.2.1,hHeld.2.2.2.2.2⟩ (fun hHeld => ?_)
  clear hK K
  refine norm_ (a':=?_) ?_ ?_
  rotate_left
  · show Act.put _ (some 24) _ = _
    simp only [Act.put,sA_,sB_,sC_,i64_w,i32_w]
    rfl
  refine pv_ (i:=19) (N:=some 5) (v:=?_) (a':=?_) rfl rfl (by kernel_rfl) (fun _ _ _ h => h) (Or.inl ⟨by rfl,?_⟩) ?_ ?_
  rotate_left;intro w';go_simp;with_reducible rfl;rotate_left;simp only [Act.put,sA_,sB_,sC_,i64_w,i32_w];rfl
  refine done_ (by kernel_rfl) ?_
  rw [← HR.out]
  obtain ⟨a0,a1,a2,b0,b1,b2⟩ := hHeld
  have HC4 := Lib.hid (cmpF174_ok fnIs112 cmpT (Vt.below HU.out HB2.out) (Vt.below HV.out HB2.out) (fun i x0 x1 x2 y0 y1 y2 hx hy W A2 B2 c2 d2 hB h1 h2 => IH.out _ (List.mem_of_getElem? hx) (.mk y0 y1 y2) W _ _ h1 h2))
  by_cases hr0 : r = 0
  · rw [hr0] at HE
    rw [hr0]
    clear HR hr0
    go_wp2_with (
      go_at_call 174
      refine HC4.out.mono ?_
      rintro e w5 ⟨rfl,hb5⟩
      have HB5 := Lib.hid (HB2.out.trans (hb5.mono HB2.out.size))
      clear hb5)
    go_ret
    exact ⟨by rw [show res = lexC cmpT l l' by simpa using HE.out]; rfl,HB5.out⟩
  · have hr1 : (r == 0) = false := by simpa using hr0
    go_wp2_with fail
    go_ret
    exact ⟨by rw [HE.out,if_neg hr0]; rfl,HB2.out⟩
end Go.Proofs.YtjojbhkgdkcaoaaGreat
namespace Go.Bh
def cmpO (x y : Off) : Int := if x.inn = y.inn then orI [cmpI x.s y.s,cmpT x.t y.t] else if y.inn = true then -1 else 1
def cmpP (x y : Pr) : Int := orI [cmpT x.a y.a,cmpT x.b y.b]
end Go.Bh
namespace Go.Proofs.YtjojbhkgdkcaoaaGreat
open Go Go.RowKit Go.Bh Go.Shelf Go.Proofs.YtjojbhkgdkcaoaaGreatW.PrintLast
mutual
theorem cmpT_rng : ∀ (x y : Tm),InR (cmpT x y)
  | .mk k n l,.mk k' n' l' => by
    rw [cmpT]
    split
    · exact cmpTs_rng l l'
    · unfold orI orI orI orI
      split <;> (try split) <;> (try split) <;> first | exact cmpI_rng _ _ | (unfold InR; omega)
theorem cmpTs_rng : ∀ (a b : List Tm),InR (cmpTs a b)
  | [],[] => by rw [cmpTs]; unfold InR; omega
  | [],_ :: _ => by rw [cmpTs]; unfold InR; omega
  | _ :: _,[] => by rw [cmpTs]; unfold InR; omega
  | x :: a,y :: b => by rw [cmpTs]; split; exact cmpTs_rng a b; exact cmpT_rng x y
end
theorem is_two (w : World) (r1 r2 : Int) (h1 : InR r1) (h2 : InR r2) : Is (w.alloc (.cells #[.int .i64 r1,.int .i64 r2] 3)) [r1,r2] (.slice (some ⟨w.heap.size,0,none⟩) 2 2) :=
  is_of _ w.heap.size 2 2 [r1,r2] (by intro x hx; simp at hx; rcases hx with rfl | rfl; exact h1; exact h2) rfl (Nat.le_refl _) (by unfold maxLen; omega) (fun j x h => by
    rw [cell_of_row _ _ _ _ _ _ (World.alloc_heap_new w _)]
    match j,h with
    | 0,h => simp at h; subst h; rfl
    | 1,h => simp at h; subst h; rfl
    | (j + 2),h => simp at h)
theorem drew_t {w : World} {l : List Tm} {v : Value} (h : Ts w l v) : Ts w.drew l v := drew_ts h
theorem cmpO_ok (x0 : Bool) (x1 x2 x3 : Int) (x4 : List Tm) (y0 : Bool) (y1 y2 y3 : Int) (y4 : List Tm) (w : World) (A4 B4 : Option Addr) (c4 d4 : Nat) (hu : Ts w x4 (.slice A4 x4.length c4)) (hv : Ts w y4 (.slice B4 y4.length d4)) :
    Calls Tryz.prog 108 #[.agg #[.bool x0,.int .i64 x1,.int .i64 x2,.int .i64 x3,.slice A4 x4.length c4],.agg #[.bool y0,.int .i64 y1,.int .i64 y2,.int .i64 y3,.slice B4 y4.length d4]] w fun e w' => e = .returned (.int .i64 (cmpO ⟨x0,x1,.mk x2 x3 x4⟩ ⟨y0,y1,.mk y2 y3 y4⟩)) ∧ Below w.heap.size w w' := by
  obtain ⟨res,hres⟩ : ∃ z,z = cmpO ⟨x0,x1,.mk x2 x3 x4⟩ ⟨y0,y1,.mk y2 y3 y4⟩ := ⟨_,rfl⟩
  rw [← hres]
  have HRES : Hid (res = if x0 = y0 then orI [cmpI x1 y1,cmpT (.mk x2 x3 x4) (.mk y2 y3 y4)] else if y0 = true then -1 else 1) := Lib.hid hres
  clear hres
  obtain ⟨r1,hr1⟩ : ∃ z,z = cmpI x1 y1 := ⟨_,rfl⟩
  obtain ⟨r2,hr2⟩ : ∃ z,z = cmpT (.mk x2 x3 x4) (.mk y2 y3 y4) := ⟨_,rfl⟩
  have HQ : Hid (InR r1 ∧ InR r2) := Lib.hid ⟨by rw [hr1]; exact cmpI_rng _ _,by rw [hr2]; exact cmpT_rng _ _⟩
  have HC1 := Lib.hid (fun W => cmpI_ok x1 y1 W)
  obtain ⟨W1,hW1⟩ : ∃ y,y = (w.alloc (.cells #[.bool x0,.int .i64 x1,.int .i64 x2,.int .i64 x3,.slice A4 x4.length c4] 68)).alloc (.cells #[.bool y0,.int .i64 y1,.int .i64 y2,.int .i64 y3,.slice B4 y4.length d4] 68) := ⟨_,rfl⟩
  have hz1 : W1.heap.size = w.heap.size + 2 := by rw [hW1]; simp
  have hb1 : Below w.heap.size w W1 := by rw [hW1]; exact ((Below.refl _ w).alloc (Nat.le_refl _) _).alloc (by simp) _
  have h0 : W1.heap[w.heap.size]? = some (.cells #[.bool x0,.int .i64 x1,.int .i64 x2,.int .i64 x3,.slice A4 x4.length c4] 68) := by rw [hW1]; exact (Below.heap_alloc _ _ _ (by simp)).trans (World.alloc_heap_new w _)
  have h1 : W1.heap[w.heap.size + 1]? = some (.cells #[.bool y0,.int .i64 y1,.int .i64 y2,.int .i64 y3,.slice B4 y4.length d4] 68) := by rw [hW1]; have := World.alloc_heap_new (w.alloc (.cells #[.bool x0,.int .i64 x1,.int .i64 x2,.int .i64 x3,.slice A4 x4.length c4] 68)) (.cells #[.bool y0,.int .i64 y1,.int .i64 y2,.int .i64 y3,.slice B4 y4.length d4] 68); simpa using this
  have a0 : W1.cell? ⟨w.heap.size,0,none⟩ = some (.bool x0) := cell_at h0 0 rfl
  have a1 : W1.cell? ⟨w.heap.size,1,none⟩ = some (.int .i64 x1) := cell_at h0 1 rfl
  have a2 : W1.cell? ⟨w.heap.size,2,none⟩ = some (.int .i64 x2) := cell_at h0 2 rfl
  have a3 : W1.cell? ⟨w.heap.size,3,none⟩ = some (.int .i64 x3) := cell_at h0 3 rfl
  have a4 : W1.cell? ⟨w.heap.size,4,none⟩ = some (.slice A4 x4.length c4) := cell_at h0 4 rfl
  have b0 : W1.cell? ⟨w.heap.size + 1,0,none⟩ = some (.bool y0) := cell_at h1 0 rfl
  have b1 : W1.cell? ⟨w.heap.size + 1,1,none⟩ = some (.int .i64 y1) := cell_at h1 1 rfl
  have b2 : W1.cell? ⟨w.heap.size + 1,2,none⟩ = some (.int .i64 y2) := cell_at h1 2 rfl
  have b3 : W1.cell? ⟨w.heap.size + 1,3,none⟩ = some (.int .i64 y3) := cell_at h1 3 rfl
  have b4 : W1.cell? ⟨w.heap.size + 1,4,none⟩ = some (.slice B4 y4.length d4) := cell_at h1 4 rfl
  have HB1 := Lib.hid hb1
  have HW1 := Lib.hid hW1
  clear h0 h1 hz1
  have HC2 := Lib.hid (cmpT_ok (.mk x2 x3 x4) (.mk y2 y3 y4) W1.drew _ _ (drew_t (hu.below hb1)) (drew_t (hv.below hb1)))
  dsimp only [Tm.k,Tm.n,Tm.l] at HC2
  rw [← hr1,← hr2] at HRES
  rw [← hr1] at HC1
  rw [← hr2] at HC2
  clear hr1 hr2 hu hv hb1 hW1
  by_cases he : x0 = y0
  · subst he
    have hne : (x0 != x0) = false := by simp
    go_enter Tryz.func108,Tryz.ntmps108
    go_upto_region 5 with fail
    rw [← HW1.out]
    refine start_ (n:=13) (S:=fun w' => w'.cell? ⟨w.heap.size,0,none⟩ = some (.bool x0) ∧ w'.cell? ⟨w.heap.size,1,none⟩ = some (.int .i64 x1) ∧ w'.cell? ⟨w.heap.size,2,none⟩ = some (.int .i64 x2) ∧ w'.cell? ⟨w.heap.size,3,none⟩ = some (.int .i64 x3) ∧ w'.cell? ⟨w.heap.size,4,none⟩ = some (.slice A4 x4.length c4) ∧ w'.cell? ⟨w.heap.size + 1,0,none⟩ = some (.bool x0) ∧ w'.cell? ⟨w.heap.size + 1,1,none⟩ = some (.int .i64 y1) ∧ w'.cell? ⟨w.heap.size + 1,2,none⟩ = some (.int .i64 y2) ∧ w'.cell? ⟨w.heap.size + 1,3,none⟩ = some (.int .i64 y3) ∧ w'.cell? ⟨w.heap.size + 1,4,none⟩ = some (.slice B4 y4.length d4)) (ds := []) #[f_,f_,f_,f_,f_,f_,f_,f_,f_,f_,f_,f_,f_] (by kernel_rfl) rfl rfl ⟨a0,a1,a2,a3,a4,b0,b1,b2,b3,b4⟩ (fun hHeld => ?_)
    refine pv_ (i:=0) (N:=some 12) (v:=?_) (a':=?_) rfl rfl (by kernel_rfl) (fun _ _ _ h => h) (Or.inl ⟨by rfl,?_⟩) ?_ ?_
    rotate_left;intro w';go_simp;with_reducible rfl;rotate_left;simp only [Act.put,sA_,sB_,sC_,i64_w,i32_w];rfl
    refine pv_ (i:=2) (N:=some 14) (v:=?_) (a':=?_) rfl rfl (by kernel_rfl) (fun _ _ _ h => h) (Or.inl ⟨by rfl,?_⟩) ?_ ?_
    rotate_left;intro w';go_simp;with_reducible rfl;rotate_left;simp only [Act.put,sA_,sB_,sC_,i64_w,i32_w];rfl
    refine pv_ (i:=5) (N:=some 17) (v:=?_) (a':=?_) rfl rfl (by kernel_rfl) (fun _ _ _ h => h) (Or.inl ⟨by rfl,?_⟩) ?_ ?_
    rotate_left;intro w';go_simp;with_reducible rfl;rotate_left;simp only [Act.put,sA_,sB_,sC_,i64_w,i32_w];rfl
    refine pv_ (i:=7) (N:=some 19) (v:=?_) (a':=?_) rfl rfl (by kernel_rfl) (fun _ _ _ h => h) (Or.inl ⟨by rfl,?_⟩) ?_ ?_
    rotate_left;intro w';go_simp;with_reducible rfl;rotate_left;simp only [Act.put,sA_,sB_,sC_,i64_w,i32_w];rfl
    refine tv_ (i:=1) (N:=some 13) (v:=?_) (a':=?_) rfl rfl (by kernel_rfl) (fun _ _ _ h => h) (Or.inl ⟨by rfl,?_⟩) hHeld ?_ ?_
    rotate_left;rintro w' ⟨s0,s1,s2,s3,s4,s5,s6,s7,s8,s9⟩;go_simp;with_reducible rfl;rotate_left;simp only [Act.put,sA_,sB_,sC_,i64_w,i32_w];rfl
    refine tv_ (i:=3) (N:=some 15) (v:=?_) (a':=?_) rfl rfl (by kernel_rfl) (fun _ _ _ h => h) (Or.inl ⟨by rfl,?_⟩) hHeld ?_ ?_
    rotate_left;rintro w' ⟨s0,s1,s2,s3,s4,s5,s6,s7,s8,s9⟩;go_simp;with_reducible rfl;rotate_left;simp only [Act.put,sA_,sB_,sC_,i64_w,i32_w];rfl
    refine tv_ (i:=6) (N:=some 18) (v:=?_) (a':=?_) rfl rfl (by kernel_rfl) (fun _ _ _ h => h) (Or.inl ⟨by rfl,?_⟩) hHeld ?_ ?_
    rotate_left;rintro w' ⟨s0,s1,s2,s3,s4,s5,s6,s7,s8,s9⟩;go_simp;with_reducible rfl;rotate_left;simp only [Act.put,sA_,sB_,sC_,i64_w,i32_w];rfl
    refine tv_ (i:=8) (N:=some 20) (v:=?_) (a':=?_) rfl rfl (by kernel_rfl) (fun _ _ _ h => h) (Or.inl ⟨by rfl,?_⟩) hHeld ?_ ?_
    rotate_left;rintro w' ⟨s0,s1,s2,s3,s4,s5,s6,s7,s8,s9⟩;go_simp;with_reducible rfl;rotate_left;simp only [Act.put,sA_,sB_,sC_,i64_w,i32_w];rfl
    refine one_ (i:=4) (N:=some 16) #[t_,t_,t_,t_,t_,t_,t_,t_,t_,f_,f_,f_,f_] rfl rfl (by kernel_rfl) (by decide) (fun K hK => ?_)
    refine goes_ Tryz.func114 (by kernel_rfl) rfl #[.int .i64 x1,.int .i64 y1] (by rfl) rfl rfl (by simp only [List.map_toArray,List.map_cons,List.map_nil]; rfl) ?_
    refine (HC1.out _).mono ?_
    rintro e w2 ⟨rfl,rfl⟩
    refine ⟨_,rfl,?_⟩
    refine hK.out _ _ ⟨hHeld.1,hHeld.2.1,hHeld.2.2.1,hHeld.2.2.2.1,hHeld.2.2.2.2.1,hHeld.2.2.2.2.2.1,hHeld.2.2.2.2.2.2.1,hHeld.2.2.2.2.2.2.2.1,hHeld.2.2.2.2.2.2.2.2.1,hHeld.2.2.2.2.2.2.2.2.2⟩ (fun hHeld => ?_)
    clear hK K
    refine norm_ (a':=?_) ?_ ?_
    rotate_left
    · show Act.put _ (some 16) _ = _
      simp only [Act.put,sA_,sB_,sC_,i64_w,i32_w]
      rfl
    refine one_ (i:=9) (N:=some 21) #[t_,t_,t_,t_,t_,t_,t_,t_,t_,t_,f_,f_,f_] rfl rfl (by kernel_rfl) (by decide) (fun K hK => ?_)
    refine goes_ Tryz.func112 (by kernel_rfl) rfl #[.agg #[.int .i64 x2,.int .i64 x3,.slice A4 x4.length c4],.agg #[.int .i64 y2,.int .i64 y3,.slice B4 y4.length d4]] (by rfl) rfl rfl (by simp only [List.map_toArray,List.map_cons,List.map_nil]; rfl) ?_
    refine HC2.out.mono ?_
    rintro e w3 ⟨rfl,hb3⟩
    have HIS := Lib.hid (is_two w3 r1 r2 HQ.out.1 HQ.out.2)
    have HB3 : Hid (Below w.heap.size w w3) := Lib.hid ((HB1.out.drew).trans (hb3.mono HB1.out.size))
    refine ⟨_,rfl,?_⟩
    refine hK.out _ _ ⟨(Below.cellOf hb3 hHeld.1),(Below.cellOf hb3 hHeld.2.1),(Below.cellOf hb3 hHeld.2.2.1),(Below.cellOf hb3 hHeld.2.2.2.1),(Below.cellOf hb3 hHeld.2.2.2.2.1),(Below.cellOf hb3 hHeld.2.2.2.2.2.1),(Below.cellOf hb3 hHeld.2.2.2.2.2.2.1),(Below.cellOf hb3 hHeld.2.2.2.2.2.2.2.1),(Below.cellOf hb3 hHeld.2.2.2.2.2.2.2.2.1),(Below.cellOf hb3 hHeld.2.2.2.2.2.2.2.2.2)⟩ (fun hHeld => ?_)
    clear hK K
    refine norm_ (a':=?_) ?_ ?_
    rotate_left
    · show Act.put _ (some 21) _ = _
      simp only [Act.put,sA_,sB_,sC_,i64_w,i32_w]
      rfl
    refine one_ (i:=10) (N:=some 22) #[t_,t_,t_,t_,t_,t_,t_,t_,t_,t_,t_,f_,f_] rfl rfl (by kernel_rfl) (by decide) (fun K hK => ?_)
    refine value_ (w1:=?_) (v:=?_) (by rfl) rfl ?_ ?_
    rotate_left 2
    · go_simp
      constructor
      · rfl
      · rfl
    refine hK.out _ _ ⟨(ca hHeld.1 _),(ca hHeld.2.1 _),(ca hHeld.2.2.1 _),(ca hHeld.2.2.2.1 _),(ca hHeld.2.2.2.2.1 _),(ca hHeld.2.2.2.2.2.1 _),(ca hHeld.2.2.2.2.2.2.1 _),(ca hHeld.2.2.2.2.2.2.2.1 _),(ca hHeld.2.2.2.2.2.2.2.2.1 _),(ca hHeld.2.2.2.2.2.2.2.2.2 _)⟩ (fun hHeld => ?_)
    clear hK K
    refine norm_ (a':=?_) ?_ ?_
    rotate_left
    · show Act.put _ (some 22) _ = _
      simp only [Act.put,sA_,sB_,sC_,i64_w,i32_w]
      rfl
    refine one_ (i:=11) (N:=some 23) #[t_,t_,t_,t_,t_,t_,t_,t_,t_,t_,t_,t_,f_] rfl rfl (by kernel_rfl) (by decide) (fun K hK => ?_)
    refine goes_ Tryz.func106 (by kernel_rfl) rfl #[.slice (some ⟨w3.heap.size,0,none⟩) 2 2] (by rfl) rfl rfl (by simp only [List.map_toArray,List.map_cons,List.map_nil]; rfl) ?_
    refine (orI_ok [r1,r2] _ _ HIS.out).mono ?_
    rintro e w4 ⟨rfl,rfl⟩
    refine ⟨_,rfl,?_⟩
    refine hK.out _ _ ⟨hHeld.1,hHeld.2.1,hHeld.2.2.1,hHeld.2.2.2.1,hHeld.2.2.2.2.1,hHeld.2.2.2.2.2.1,hHeld.2.2.2.2.2.2.1,hHeld.2.2.2.2.2.2.2.1,hHeld.2.2.2.2.2.2.2.2.1,hHeld.2.2.2.2.2.2.2.2.2⟩ (fun hHeld => ?_)
    clear hK K
    refine norm_ (a':=?_) ?_ ?_
    rotate_left
    · show Act.put _ (some 23) _ = _
      simp only [Act.put,sA_,sB_,sC_,i64_w,i32_w]
      rfl
    refine pv_ (i:=12) (N:=some 4) (v:=?_) (a':=?_) rfl rfl (by kernel_rfl) (fun _ _ _ h => h) (Or.inl ⟨by rfl,?_⟩) ?_ ?_
    rotate_left;intro w';go_simp;with_reducible rfl;rotate_left;simp only [Act.put,sA_,sB_,sC_,i64_w,i32_w];rfl
    refine done_ (by kernel_rfl) ?_
    clear hHeld
    go_wp2_with fail
    go_ret
    exact ⟨by rw [show res = orI [r1,r2] by simpa using HRES.out]; rfl,(HB3.out.alloc HB3.out.size _)⟩
  · have hne : (x0 != y0) = true := by simpa using he
    have HNE := Lib.hid he
    cases y0
    all_goals
      cases x0
      all_goals first
        | exact absurd rfl HNE.out
        | (go_enter Tryz.func108,Tryz.ntmps108
           go_wp2_with fail
           go_ret
           exact ⟨by rw [HRES.out]; rfl,by rw [← HW1.out]; exact HB1.out⟩)
theorem fnIs108 : FnIs Tryz.prog 108 := ⟨_,Tryz.func108,by kernel_rfl,rfl⟩
theorem cmpP_ok (x0 x1 : Int) (x2 : List Tm) (x3 x4 : Int) (x5 : List Tm) (y0 y1 : Int) (y2 : List Tm) (y3 y4 : Int) (y5 : List Tm) (w : World) (A2 B2 A5 B5 : Option Addr) (c2 d2 c5 d5 : Nat) (hu2 : Ts w x2 (.slice A2 x2.length c2)) (hv2 : Ts w y2 (.slice B2 y2.length d2)) (hu5 : Ts w x5 (.slice A5 x5.length c5)) (hv5 : Ts w y5 (.slice B5 y5.length d5)) :
    Calls Tryz.prog 110 #[.agg #[.int .i64 x0,.int .i64 x1,.slice A2 x2.length c2,.int .i64 x3,.int .i64 x4,.slice A5 x5.length c5],.agg #[.int .i64 y0,.int .i64 y1,.slice B2 y2.length d2,.int .i64 y3,.int .i64 y4,.slice B5 y5.length d5]] w fun e w' => e = .returned (.int .i64 (cmpP ⟨.mk x0 x1 x2,.mk x3 x4 x5⟩ ⟨.mk y0 y1 y2,.mk y3 y4 y5⟩)) ∧ Below w.heap.size w w' := by
  obtain ⟨res,hres⟩ : ∃ z,z = cmpP ⟨.mk x0 x1 x2,.mk x3 x4 x5⟩ ⟨.mk y0 y1 y2,.mk y3 y4 y5⟩ := ⟨_,rfl⟩
  rw [← hres]
  have HRES : Hid (res = orI [cmpT (.mk x0 x1 x2) (.mk y0 y1 y2),cmpT (.mk x3 x4 x5) (.mk y3 y4 y5)]) := Lib.hid hres
  clear hres
  obtain ⟨r1,hr1⟩ : ∃ z,z = cmpT (.mk x0 x1 x2) (.mk y0 y1 y2) := ⟨_,rfl⟩
  obtain ⟨r2,hr2⟩ : ∃ z,z = cmpT (.mk x3 x4 x5) (.mk y3 y4 y5) := ⟨_,rfl⟩
  have HQ : Hid (InR r1 ∧ InR r2) := Lib.hid ⟨by rw [hr1]; exact cmpT_rng _ _,by rw [hr2]; exact cmpT_rng _ _⟩
  obtain ⟨W1,hW1⟩ : ∃ y,y = (w.alloc (.cells #[.int .i64 x0,.int .i64 x1,.slice A2 x2.length c2,.int .i64 x3,.int .i64 x4,.slice A5 x5.length c5] 115)).alloc (.cells #[.int .i64 y0,.int .i64 y1,.slice B2 y2.length d2,.int .i64 y3,.int .i64 y4,.slice B5 y5.length d5] 115) := ⟨_,rfl⟩
  have hz1 : W1.heap.size = w.heap.size + 2 := by rw [hW1]; simp
  have hb1 : Below w.heap.size w W1 := by rw [hW1]; exact ((Below.refl _ w).alloc (Nat.le_refl _) _).alloc (by simp) _
  have h0 : W1.heap[w.heap.size]? = some (.cells #[.int .i64 x0,.int .i64 x1,.slice A2 x2.length c2,.int .i64 x3,.int .i64 x4,.slice A5 x5.length c5] 115) := by rw [hW1]; exact (Below.heap_alloc _ _ _ (by simp)).trans (World.alloc_heap_new w _)
  have h1 : W1.heap[w.heap.size + 1]? = some (.cells #[.int .i64 y0,.int .i64 y1,.slice B2 y2.length d2,.int .i64 y3,.int .i64 y4,.slice B5 y5.length d5] 115) := by rw [hW1]; have := World.alloc_heap_new (w.alloc (.cells #[.int .i64 x0,.int .i64 x1,.slice A2 x2.length c2,.int .i64 x3,.int .i64 x4,.slice A5 x5.length c5] 115)) (.cells #[.int .i64 y0,.int .i64 y1,.slice B2 y2.length d2,.int .i64 y3,.int .i64 y4,.slice B5 y5.length d5] 115); simpa using this
  have a0 : W1.cell? ⟨w.heap.size,0,none⟩ = some (.int .i64 x0) := cell_at h0 0 rfl
  have a1 : W1.cell? ⟨w.heap.size,1,none⟩ = some (.int .i64 x1) := cell_at h0 1 rfl
  have a2 : W1.cell? ⟨w.heap.size,2,none⟩ = some (.slice A2 x2.length c2) := cell_at h0 2 rfl
  have a3 : W1.cell? ⟨w.heap.size,3,none⟩ = some (.int .i64 x3) := cell_at h0 3 rfl
  have a4 : W1.cell? ⟨w.heap.size,4,none⟩ = some (.int .i64 x4) := cell_at h0 4 rfl
  have a5 : W1.cell? ⟨w.heap.size,5,none⟩ = some (.slice A5 x5.length c5) := cell_at h0 5 rfl
  have b0 : W1.cell? ⟨w.heap.size + 1,0,none⟩ = some (.int .i64 y0) := cell_at h1 0 rfl
  have b1 : W1.cell? ⟨w.heap.size + 1,1,none⟩ = some (.int .i64 y1) := cell_at h1 1 rfl
  have b2 : W1.cell? ⟨w.heap.size + 1,2,none⟩ = some (.slice B2 y2.length d2) := cell_at h1 2 rfl
  have b3 : W1.cell? ⟨w.heap.size + 1,3,none⟩ = some (.int .i64 y3) := cell_at h1 3 rfl
  have b4 : W1.cell? ⟨w.heap.size + 1,4,none⟩ = some (.int .i64 y4) := cell_at h1 4 rfl
  have b5 : W1.cell? ⟨w.heap.size + 1,5,none⟩ = some (.slice B5 y5.length d5) := cell_at h1 5 rfl
  have HB1 := Lib.hid hb1
  have HW1 := Lib.hid hW1
  clear h0 h1 hz1
  have HC1 := Lib.hid (cmpT_ok (.mk x0 x1 x2) (.mk y0 y1 y2) W1.drew _ _ (drew_t (hu2.below hb1)) (drew_t (hv2.below hb1)))
  have HC2 := Lib.hid (fun (W : World) (hW : Below W1.drew.heap.size W1.drew W) => cmpT_ok (.mk x3 x4 x5) (.mk y3 y4 y5) W _ _ ((drew_t (hu5.below hb1)).below hW) ((drew_t (hv5.below hb1)).below hW))
  dsimp only [Tm.k,Tm.n,Tm.l] at HC1 HC2
  rw [← hr1,← hr2] at HRES
  rw [← hr1] at HC1
  rw [← hr2] at HC2
  clear hr1 hr2 hu2 hv2 hu5 hv5 hb1 hW1
  go_enter Tryz.func110,Tryz.ntmps110
  go_upto_region 1 with fail
  rw [← HW1.out]
  refine start_ (n:=13) (S:=fun w' => w'.cell? ⟨w.heap.size,0,none⟩ = some (.int .i64 x0) ∧ w'.cell? ⟨w.heap.size,1,none⟩ = some (.int .i64 x1) ∧ w'.cell? ⟨w.heap.size,2,none⟩ = some (.slice A2 x2.length c2) ∧ w'.cell? ⟨w.heap.size,3,none⟩ = some (.int .i64 x3) ∧ w'.cell? ⟨w.heap.size,4,none⟩ = some (.int .i64 x4) ∧ w'.cell? ⟨w.heap.size,5,none⟩ = some (.slice A5 x5.length c5) ∧ w'.cell? ⟨w.heap.size + 1,0,none⟩ = some (.int .i64 y0) ∧ w'.cell? ⟨w.heap.size + 1,1,none⟩ = some (.int .i64 y1) ∧ w'.cell? ⟨w.heap.size + 1,2,none⟩ = some (.slice B2 y2.length d2) ∧ w'.cell? ⟨w.heap.size + 1,3,none⟩ = some (.int .i64 y3) ∧ w'.cell? ⟨w.heap.size + 1,4,none⟩ = some (.int .i64 y4) ∧ w'.cell? ⟨w.heap.size + 1,5,none⟩ = some (.slice B5 y5.length d5)) (ds := []) #[f_,f_,f_,f_,f_,f_,f_,f_,f_,f_,f_,f_,f_] (by kernel_rfl) rfl rfl ⟨a0,a1,a2,a3,a4,a5,b0,b1,b2,b3,b4,b5⟩ (fun hHeld => ?_)
  refine pv_ (i:=0) (N:=some 5) (v:=?_) (a':=?_) rfl rfl (by kernel_rfl) (fun _ _ _ h => h) (Or.inl ⟨by rfl,?_⟩) ?_ ?_
  rotate_left;intro w';go_simp;with_reducible rfl;rotate_left;simp only [Act.put,sA_,sB_,sC_,i64_w,i32_w];rfl
  refine pv_ (i:=2) (N:=some 7) (v:=?_) (a':=?_) rfl rfl (by kernel_rfl) (fun _ _ _ h => h) (Or.inl ⟨by rfl,?_⟩) ?_ ?_
  rotate_left;intro w';go_simp;with_reducible rfl;rotate_left;simp only [Act.put,sA_,sB_,sC_,i64_w,i32_w];rfl
  refine pv_ (i:=5) (N:=some 10) (v:=?_) (a':=?_) rfl rfl (by kernel_rfl) (fun _ _ _ h => h) (Or.inl ⟨by rfl,?_⟩) ?_ ?_
  rotate_left;intro w';go_simp;with_reducible rfl;rotate_left;simp only [Act.put,sA_,sB_,sC_,i64_w,i32_w];rfl
  refine pv_ (i:=7) (N:=some 12) (v:=?_) (a':=?_) rfl rfl (by kernel_rfl) (fun _ _ _ h => h) (Or.inl ⟨by rfl,?_⟩) ?_ ?_
  rotate_left;intro w';go_simp;with_reducible rfl;rotate_left;simp only [Act.put,sA_,sB_,sC_,i64_w,i32_w];rfl
  refine tv_ (i:=1) (N:=some 6) (v:=?_) (a':=?_) rfl rfl (by kernel_rfl) (fun _ _ _ h => h) (Or.inl ⟨by rfl,?_⟩) hHeld ?_ ?_
  rotate_left;rintro w' ⟨s0,s1,s2,s3,s4,s5,s6,s7,s8,s9,s10,s11⟩;go_simp;with_reducible rfl;rotate_left;simp only [Act.put,sA_,sB_,sC_,i64_w,i32_w];rfl
  refine tv_ (i:=3) (N:=some 8) (v:=?_) (a':=?_) rfl rfl (by kernel_rfl) (fun _ _ _ h => h) (Or.inl ⟨by rfl,?_⟩) hHeld ?_ ?_
  rotate_left;rintro w' ⟨s0,s1,s2,s3,s4,s5,s6,s7,s8,s9,s10,s11⟩;go_simp;with_reducible rfl;rotate_left;simp only [Act.put,sA_,sB_,sC_,i64_w,i32_w];rfl
  refine tv_ (i:=6) (N:=some 11) (v:=?_) (a':=?_) rfl rfl (by kernel_rfl) (fun _ _ _ h => h) (Or.inl ⟨by rfl,?_⟩) hHeld ?_ ?_
  rotate_left;rintro w' ⟨s0,s1,s2,s3,s4,s5,s6,s7,s8,s9,s10,s11⟩;go_simp;with_reducible rfl;rotate_left;simp only [Act.put,sA_,sB_,sC_,i64_w,i32_w];rfl
  refine tv_ (i:=8) (N:=some 13) (v:=?_) (a':=?_) rfl rfl (by kernel_rfl) (fun _ _ _ h => h) (Or.inl ⟨by rfl,?_⟩) hHeld ?_ ?_
  rotate_left;rintro w' ⟨s0,s1,s2,s3,s4,s5,s6,s7,s8,s9,s10,s11⟩;go_simp;with_reducible rfl;rotate_left;simp only [Act.put,sA_,sB_,sC_,i64_w,i32_w];rfl
  refine one_ (i:=4) (N:=some 9) #[t_,t_,t_,t_,t_,t_,t_,t_,t_,f_,f_,f_,f_] rfl rfl (by kernel_rfl) (by decide) (fun K hK => ?_)
  refine goes_ Tryz.func112 (by kernel_rfl) rfl #[.agg #[.int .i64 x0,.int .i64 x1,.slice A2 x2.length c2],.agg #[.int .i64 y0,.int .i64 y1,.slice B2 y2.length d2]] (by rfl) rfl rfl (by simp only [List.map_toArray,List.map_cons,List.map_nil]; rfl) ?_
  refine HC1.out.mono ?_
  rintro e w2 ⟨rfl,hb2⟩
  have HB2 := Lib.hid hb2
  refine ⟨_,rfl,?_⟩
  refine hK.out _ _ ⟨(Below.cellOf hb2 hHeld.1),(Below.cellOf hb2 hHeld.2.1),(Below.cellOf hb2 hHeld.2.2.1),(Below.cellOf hb2 hHeld.2.2.2.1),(Below.cellOf hb2 hHeld.2.2.2.2.1),(Below.cellOf hb2 hHeld.2.2.2.2.2.1),(Below.cellOf hb2 hHeld.2.2.2.2.2.2.1),(Below.cellOf hb2 hHeld.2.2.2.2.2.2.2.1),(Below.cellOf hb2 hHeld.2.2.2.2.2.2.2.2.1),(Below.cellOf hb2 hHeld.2.2.2.2.2.2.2.2.2.1),(Below.cellOf hb2 hHeld.2.2.2.2.2.2.2.2.2.2.1),(Below.cellOf hb2 hHeld.2.2.2.2.2.2.2.2.2.2.2)⟩ (fun hHeld => ?_)
  clear hK K
  refine norm_ (a':=?_) ?_ ?_
  rotate_left
  · show Act.put _ (some 9) _ = _
    simp only [Act.put,sA_,sB_,sC_,i64_w,i32_w]
    rfl
  refine one_ (i:=9) (N:=some 14) #[t_,t_,t_,t_,t_,t_,t_,t_,t_,t_,f_,f_,f_] rfl rfl (by kernel_rfl) (by decide) (fun K hK => ?_)
  refine goes_ Tryz.func112 (by kernel_rfl) rfl #[.agg #[.int .i64 x3,.int .i64 x4,.slice A5 x5.length c5],.agg #[.int .i64 y3,.int .i64 y4,.slice B5 y5.length d5]] (by rfl) rfl rfl (by simp only [List.map_toArray,List.map_cons,List.map_nil]; rfl) ?_
  refine (HC2.out _ HB2.out).mono ?_
  rintro e w3 ⟨rfl,hb3⟩
  have HIS := Lib.hid (is_two w3 r1 r2 HQ.out.1 HQ.out.2)
  have HB3 : Hid (Below w.heap.size w w3) := Lib.hid (((HB1.out.drew).trans (HB2.out.mono HB1.out.size)).trans (hb3.mono (Nat.le_trans HB1.out.size HB2.out.size)))
  refine ⟨_,rfl,?_⟩
  refine hK.out _ _ ⟨(Below.cellOf hb3 hHeld.1),(Below.cellOf hb3 hHeld.2.1),(Below.cellOf hb3 hHeld.2.2.1),(Below.cellOf hb3 hHeld.2.2.2.1),(Below.cellOf hb3 hHeld.2.2.2.2.1),(Below.cellOf hb3 hHeld.2.2.2.2.2.1),(Below.cellOf hb3 hHeld.2.2.2.2.2.2.1),(Below.cellOf hb3 hHeld.2.2.2.2.2.2.2.1),(Below.cellOf hb3 hHeld.2.2.2.2.2.2.2.2.1),(Below.cellOf hb3 hHeld.2.2.2.2.2.2.2.2.2.1),(Below.cellOf hb3 hHeld.2.2.2.2.2.2.2.2.2.2.1),(Below.cellOf hb3 hHeld.2.2.2.2.2.2.2.2.2.2.2)⟩ (fun hHeld => ?_)
  clear hK K
  refine norm_ (a':=?_) ?_ ?_
  rotate_left
  · show Act.put _ (some 14) _ = _
    simp only [Act.put,sA_,sB_,sC_,i64_w,i32_w]
    rfl
  refine one_ (i:=10) (N:=some 15) #[t_,t_,t_,t_,t_,t_,t_,t_,t_,t_,t_,f_,f_] rfl rfl (by kernel_rfl) (by decide) (fun K hK => ?_)
  refine value_ (w1:=?_) (v:=?_) (by rfl) rfl ?_ ?_
  rotate_left 2
  · go_simp
    constructor
    · rfl
    · rfl
  refine hK.out _ _ ⟨(ca hHeld.1 _),(ca hHeld.2.1 _),(ca hHeld.2.2.1 _),(ca hHeld.2.2.2.1 _),(ca hHeld.2.2.2.2.1 _),(ca hHeld.2.2.2.2.2.1 _),(ca hHeld.2.2.2.2.2.2.1 _),(ca hHeld.2.2.2.2.2.2.2.1 _),(ca hHeld.2.2.2.2.2.2.2.2.1 _),(ca hHeld.2.2.2.2.2.2.2.2.2.1 _),(ca hHeld.2.2.2.2.2.2.2.2.2.2.1 _),(ca hHeld.2.2.2.2.2.2.2.2.2.2.2 _)⟩ (fun hHeld => ?_)
  clear hK K
  refine norm_ (a':=?_) ?_ ?_
  rotate_left
  · show Act.put _ (some 15) _ = _
    simp only [Act.put,sA_,sB_,sC_,i64_w,i32_w]
    rfl
  refine one_ (i:=11) (N:=some 16) #[t_,t_,t_,t_,t_,t_,t_,t_,t_,t_,t_,t_,f_] rfl rfl (by kernel_rfl) (by decide) (fun K hK => ?_)
  refine goes_ Tryz.func106 (by kernel_rfl) rfl #[.slice (some ⟨w3.heap.size,0,none⟩) 2 2] (by rfl) rfl rfl (by simp only [List.map_toArray,List.map_cons,List.map_nil]; rfl) ?_
  refine (orI_ok [r1,r2] _ _ HIS.out).mono ?_
  rintro e w4 ⟨rfl,rfl⟩
  refine ⟨_,rfl,?_⟩
  refine hK.out _ _ ⟨hHeld.1,hHeld.2.1,hHeld.2.2.1,hHeld.2.2.2.1,hHeld.2.2.2.2.1,hHeld.2.2.2.2.2.1,hHeld.2.2.2.2.2.2.1,hHeld.2.2.2.2.2.2.2.1,hHeld.2.2.2.2.2.2.2.2.1,hHeld.2.2.2.2.2.2.2.2.2.1,hHeld.2.2.2.2.2.2.2.2.2.2.1,hHeld.2.2.2.2.2.2.2.2.2.2.2⟩ (fun hHeld => ?_)
  clear hK K
  refine norm_ (a':=?_) ?_ ?_
  rotate_left
  · show Act.put _ (some 16) _ = _
    simp only [Act.put,sA_,sB_,sC_,i64_w,i32_w]
    rfl
  refine pv_ (i:=12) (N:=some 4) (v:=?_) (a':=?_) rfl rfl (by kernel_rfl) (fun _ _ _ h => h) (Or.inl ⟨by rfl,?_⟩) ?_ ?_
  rotate_left;intro w';go_simp;with_reducible rfl;rotate_left;simp only [Act.put,sA_,sB_,sC_,i64_w,i32_w];rfl
  refine done_ (by kernel_rfl) ?_
  clear hHeld
  go_wp2_with fail
  go_ret
  exact ⟨by rw [HRES.out]; rfl,(HB3.out.alloc HB3.out.size _)⟩
theorem fnIs110 : FnIs Tryz.prog 110 := ⟨_,Tryz.func110,by kernel_rfl,rfl⟩
end Go.Proofs.YtjojbhkgdkcaoaaGreat
namespace Go.Bh
mutual
def cmpB : Be → Be → Int
  | .mk k n g lo hi gs os cs ss ts bs,.mk k' n' g' lo' hi' gs' os' cs' ss' ts' bs' => if lexC cmpI [k,n,g,lo,hi] [k',n',g',lo',hi'] = 0 then (if orI [lexC cmpI gs gs',lexC cmpO os os',lexC cmpP cs cs',lexC cmpI ss ss',lexC cmpT ts ts'] = 0 then cmpBs bs bs' else orI [lexC cmpI gs gs',lexC cmpO os os',lexC cmpP cs cs',lexC cmpI ss ss',lexC cmpT ts ts']) else lexC cmpI [k,n,g,lo,hi] [k',n',g',lo',hi']
def cmpBs : List Be → List Be → Int
  | [],[] => 0
  | [],_ :: _ => -1
  | _ :: _,[] => 1
  | x :: a,y :: b => if cmpB x y = 0 then cmpBs a b else cmpB x y
end
theorem cmpBs_eq : ∀ (a b : List Be),cmpBs a b = lexC cmpB a b
  | [],[] => by rw [cmpBs,lexC]
  | [],_ :: _ => by rw [cmpBs,lexC]
  | _ :: _,[] => by rw [cmpBs,lexC]
  | x :: a,y :: b => by rw [cmpBs,lexC,cmpBs_eq a b]
theorem lexC_rng {α : Type} {c : α → α → Int} (h : ∀ x y,InR (c x y)) : ∀ (a b : List α),InR (lexC c a b)
  | [],[] => by rw [lexC]; unfold InR; omega
  | [],_ :: _ => by rw [lexC]; unfold InR; omega
  | _ :: _,[] => by rw [lexC]; unfold InR; omega
  | x :: a,y :: b => by rw [lexC]; split; exact lexC_rng h a b; exact h x y
theorem orI_rng : ∀ (l : List Int),(∀ x ∈ l,InR x) → InR (orI l)
  | [],_ => by rw [orI]; unfold InR; omega
  | x :: l,h => by rw [orI]; split; exact orI_rng l (fun y hy => h y (List.mem_cons_of_mem _ hy)); exact h x (by simp)
end Go.Bh
namespace Go.Proofs.YtjojbhkgdkcaoaaGreat
open Go Go.RowKit Go.Bh Go.Shelf Go.Proofs.YtjojbhkgdkcaoaaGreatW.PrintLast
theorem cmpO_rng (x y : Off) : InR (cmpO x y) := by
  unfold cmpO
  split
  · exact orI_rng _ (by intro z hz; simp at hz; rcases hz with rfl | rfl; exact cmpI_rng _ _; exact cmpT_rng _ _)
  · split <;> (unfold InR; omega)
theorem cmpP_rng (x y : Pr) : InR (cmpP x y) := orI_rng _ (by intro z hz; simp at hz; rcases hz with rfl | rfl; exact cmpT_rng _ _; exact cmpT_rng _ _)
theorem is_five (w : World) (r1 r2 r3 r4 r5 : Int) (h : ∀ x ∈ [r1,r2,r3,r4,r5],InR x) : Is (w.alloc (.cells #[.int .i64 r1,.int .i64 r2,.int .i64 r3,.int .i64 r4,.int .i64 r5] 3)) [r1,r2,r3,r4,r5] (.slice (some ⟨w.heap.size,0,none⟩) 5 5) :=
  is_of _ w.heap.size 5 5 [r1,r2,r3,r4,r5] h rfl (Nat.le_refl _) (by unfold maxLen; omega) (fun j x h => by
    rw [cell_of_row _ _ _ _ _ _ (World.alloc_heap_new w _)]
    match j,h with
    | 0,h => simp at h; subst h; rfl
    | 1,h => simp at h; subst h; rfl
    | 2,h => simp at h; subst h; rfl
    | 3,h => simp at h; subst h; rfl
    | 4,h => simp at h; subst h; rfl
    | (j + 5),h => simp at h)
theorem fnIs31 : FnIs Tryz.prog 31 := ⟨_,Tryz.func31,by kernel_rfl,rfl⟩
theorem cmpB1_ok (k n g lo hi : Int) (gs : List Int) (os : List Off) (cs : List Pr) (ss : List Int) (ts : List Tm) (bs : List Be) (k' n' g' lo' hi' : Int) (gs' : List Int) (os' : List Off) (cs' : List Pr) (ss' : List Int) (ts' : List Tm) (bs' : List Be)
    (w : World) (A0 A1 A2 A3 A4 A5 B0 B1 B2 B3 B4 B5 : Option Addr) (c0 c1 c2 c3 c4 c5 d0 d1 d2 d3 d4 d5 : Nat) (hr1 : ∀ x ∈ [k,n,g,lo,hi],InR x) (hr2 : ∀ x ∈ [k',n',g',lo',hi'],InR x) (hx0 : IsP (fun _ => True) w gs (.slice A0 gs.length c0)) (hy0 : IsP (fun _ => True) w gs' (.slice B0 gs'.length d0)) (hx1 : OsP (fun _ => True) w os (.slice A1 os.length c1)) (hy1 : OsP (fun _ => True) w os' (.slice B1 os'.length d1)) (hx2 : PsP (fun _ => True) w cs (.slice A2 cs.length c2)) (hy2 : PsP (fun _ => True) w cs' (.slice B2 cs'.length d2)) (hx3 : IsP (fun _ => True) w ss (.slice A3 ss.length c3)) (hy3 : IsP (fun _ => True) w ss' (.slice B3 ss'.length d3)) (hx4 : TsP (fun _ => True) w ts (.slice A4 ts.length c4)) (hy4 : TsP (fun _ => True) w ts' (.slice B4 ts'.length d4)) (hx5 : BsP (fun _ => True) w bs (.slice A5 bs.length c5)) (hy5 : BsP (fun _ => True) w bs' (.slice B5 bs'.length d5))
    (hrec : ∀ (W : World),Below w.heap.size w W → Calls Tryz.prog 113 #[.slice A5 bs.length c5,.slice B5 bs'.length d5,.func (.func 31) #[] #[]] W fun e W' => e = .returned (.int .i64 (lexC cmpB bs bs')) ∧ Below W.heap.size W W') :
    Calls Tryz.prog 31 #[.agg #[.int .i64 k,.int .i64 n,.int .i64 g,.int .i64 lo,.int .i64 hi,.slice A0 gs.length c0,.slice A1 os.length c1,.slice A2 cs.length c2,.slice A3 ss.length c3,.slice A4 ts.length c4,.slice A5 bs.length c5],.agg #[.int .i64 k',.int .i64 n',.int .i64 g',.int .i64 lo',.int .i64 hi',.slice B0 gs'.length d0,.slice B1 os'.length d1,.slice B2 cs'.length d2,.slice B3 ss'.length d3,.slice B4 ts'.length d4,.slice B5 bs'.length d5]] w fun e w' => e = .returned (.int .i64 (cmpB (.mk k n g lo hi gs os cs ss ts bs) (.mk k' n' g' lo' hi' gs' os' cs' ss' ts' bs'))) ∧ Below w.heap.size w w' := by
  obtain ⟨res,hres⟩ : ∃ z,z = cmpB (.mk k n g lo hi gs os cs ss ts bs) (.mk k' n' g' lo' hi' gs' os' cs' ss' ts' bs') := ⟨_,rfl⟩
  rw [← hres]
  obtain ⟨r,hr⟩ : ∃ z,z = lexC cmpI [k,n,g,lo,hi] [k',n',g',lo',hi'] := ⟨_,rfl⟩
  obtain ⟨q,hq⟩ : ∃ z,z = orI [lexC cmpI gs gs',lexC cmpO os os',lexC cmpP cs cs',lexC cmpI ss ss',lexC cmpT ts ts'] := ⟨_,rfl⟩
  have HRES : Hid (res = if r = 0 then (if q = 0 then lexC cmpB bs bs' else q) else r) := Lib.hid (by rw [hres,hr,hq,cmpB,cmpBs_eq])
  clear hres
  obtain ⟨q0,hq0⟩ : ∃ z,z = lexC cmpI gs gs' := ⟨_,rfl⟩
  obtain ⟨q1,hq1⟩ : ∃ z,z = lexC cmpO os os' := ⟨_,rfl⟩
  obtain ⟨q2,hq2⟩ : ∃ z,z = lexC cmpP cs cs' := ⟨_,rfl⟩
  obtain ⟨q3,hq3⟩ : ∃ z,z = lexC cmpI ss ss' := ⟨_,rfl⟩
  obtain ⟨q4,hq4⟩ : ∃ z,z = lexC cmpT ts ts' := ⟨_,rfl⟩
  rw [← hq0,← hq1,← hq2,← hq3,← hq4] at hq
  have HQ : Hid (∀ x ∈ [q0,q1,q2,q3,q4],InR x) := Lib.hid (by intro x hx; simp at hx; rcases hx with rfl | rfl | rfl | rfl | rfl; (rw [hq0]; exact lexC_rng cmpI_rng _ _); (rw [hq1]; exact lexC_rng cmpO_rng _ _); (rw [hq2]; exact lexC_rng cmpP_rng _ _); (rw [hq3]; exact lexC_rng cmpI_rng _ _); (rw [hq4]; exact lexC_rng cmpT_rng _ _))
  have HC0 := Lib.hid (fun (W : World) (hW : Below w.heap.size w W) => compareI_ok gs gs' W _ _ (Vt.below hx0 hW) (Vt.below hy0 hW))
  rw [← hq0] at HC0
  have HC1 := Lib.hid (fun (W : World) (hW : Below w.heap.size w W) => lists107_ok fnIs108 cmpO (Vt.below hx1 hW) (Vt.below hy1 hW) (fun i x0 x1 x2 x3 x4 y0 y1 y2 y3 y4 _ _ W A4 B4 c4 d4 _ h1 h2 => cmpO_ok x0 x1 x2 x3 x4 y0 y1 y2 y3 y4 W A4 B4 c4 d4 h1 h2))
  rw [← hq1] at HC1
  have HC2 := Lib.hid (fun (W : World) (hW : Below w.heap.size w W) => lists109_ok fnIs110 cmpP (Vt.below hx2 hW) (Vt.below hy2 hW) (fun i x0 x1 x2 x3 x4 x5 y0 y1 y2 y3 y4 y5 _ _ W A2 B2 c2 d2 A5 B5 c5 d5 _ h1 h2 h3 h4 => cmpP_ok x0 x1 x2 x3 x4 x5 y0 y1 y2 y3 y4 y5 W A2 B2 A5 B5 c2 d2 c5 d5 h1 h2 h3 h4))
  rw [← hq2] at HC2
  have HC3 := Lib.hid (fun (W : World) (hW : Below w.heap.size w W) => compareI_ok ss ss' W _ _ (Vt.below hx3 hW) (Vt.below hy3 hW))
  rw [← hq3] at HC3
  have HC4 := Lib.hid (fun (W : World) (hW : Below w.heap.size w W) => lists111_ok fnIs112 cmpT (Vt.below hx4 hW) (Vt.below hy4 hW) (fun i x0 x1 x2 y0 y1 y2 _ _ W A2 B2 c2 d2 _ h1 h2 => cmpT_ok (.mk x0 x1 x2) (.mk y0 y1 y2) W _ _ h1 h2))
  rw [← hq4] at HC4
  have HREC := Lib.hid hrec
  have HQQ := Lib.hid hq
  clear hq0 hq1 hq2 hq3 hq4 hq hrec hx0 hy0 hx1 hy1 hx2 hy2 hx3 hy3 hx4 hy4 hx5 hy5
  obtain ⟨W1,hW1⟩ : ∃ y,y = (w.alloc (.cells #[.int .i64 k,.int .i64 n,.int .i64 g,.int .i64 lo,.int .i64 hi,.slice A0 gs.length c0,.slice A1 os.length c1,.slice A2 cs.length c2,.slice A3 ss.length c3,.slice A4 ts.length c4,.slice A5 bs.length c5] 28)).alloc (.cells #[.int .i64 k',.int .i64 n',.int .i64 g',.int .i64 lo',.int .i64 hi',.slice B0 gs'.length d0,.slice B1 os'.length d1,.slice B2 cs'.length d2,.slice B3 ss'.length d3,.slice B4 ts'.length d4,.slice B5 bs'.length d5] 28) := ⟨_,rfl⟩
  have hz1 : W1.heap.size = w.heap.size + 2 := by rw [hW1]; simp
  have hb1 : Below w.heap.size w W1 := by rw [hW1]; exact ((Below.refl _ w).alloc (Nat.le_refl _) _).alloc (by simp) _
  have h0 : W1.heap[w.heap.size]? = some (.cells #[.int .i64 k,.int .i64 n,.int .i64 g,.int .i64 lo,.int .i64 hi,.slice A0 gs.length c0,.slice A1 os.length c1,.slice A2 cs.length c2,.slice A3 ss.length c3,.slice A4 ts.length c4,.slice A5 bs.length c5] 28) := by rw [hW1]; exact (Below.heap_alloc _ _ _ (by simp)).trans (World.alloc_heap_new w _)
  have h1 : W1.heap[w.heap.size + 1]? = some (.cells #[.int .i64 k',.int .i64 n',.int .i64 g',.int .i64 lo',.int .i64 hi',.slice B0 gs'.length d0,.slice B1 os'.length d1,.slice B2 cs'.length d2,.slice B3 ss'.length d3,.slice B4 ts'.length d4,.slice B5 bs'.length d5] 28) := by rw [hW1]; have := World.alloc_heap_new (w.alloc (.cells #[.int .i64 k,.int .i64 n,.int .i64 g,.int .i64 lo,.int .i64 hi,.slice A0 gs.length c0,.slice A1 os.length c1,.slice A2 cs.length c2,.slice A3 ss.length c3,.slice A4 ts.length c4,.slice A5 bs.length c5] 28)) (.cells #[.int .i64 k',.int .i64 n',.int .i64 g',.int .i64 lo',.int .i64 hi',.slice B0 gs'.length d0,.slice B1 os'.length d1,.slice B2 cs'.length d2,.slice B3 ss'.length d3,.slice B4 ts'.length d4,.slice B5 bs'.length d5] 28); simpa using this
  have a0 : W1.cell? ⟨w.heap.size,0,none⟩ = some (.int .i64 k) := cell_at h0 0 rfl
  have a1 : W1.cell? ⟨w.heap.size,1,none⟩ = some (.int .i64 n) := cell_at h0 1 rfl
  have a2 : W1.cell? ⟨w.heap.size,2,none⟩ = some (.int .i64 g) := cell_at h0 2 rfl
  have a3 : W1.cell? ⟨w.heap.size,3,none⟩ = some (.int .i64 lo) := cell_at h0 3 rfl
  have a4 : W1.cell? ⟨w.heap.size,4,none⟩ = some (.int .i64 hi) := cell_at h0 4 rfl
  have a5 : W1.cell? ⟨w.heap.size,5,none⟩ = some (.slice A0 gs.length c0) := cell_at h0 5 rfl
  have a6 : W1.cell? ⟨w.heap.size,6,none⟩ = some (.slice A1 os.length c1) := cell_at h0 6 rfl
  have a7 : W1.cell? ⟨w.heap.size,7,none⟩ = some (.slice A2 cs.length c2) := cell_at h0 7 rfl
  have a8 : W1.cell? ⟨w.heap.size,8,none⟩ = some (.slice A3 ss.length c3) := cell_at h0 8 rfl
  have a9 : W1.cell? ⟨w.heap.size,9,none⟩ = some (.slice A4 ts.length c4) := cell_at h0 9 rfl
  have a10 : W1.cell? ⟨w.heap.size,10,none⟩ = some (.slice A5 bs.length c5) := cell_at h0 10 rfl
  have b0 : W1.cell? ⟨w.heap.size + 1,0,none⟩ = some (.int .i64 k') := cell_at h1 0 rfl
  have b1 : W1.cell? ⟨w.heap.size + 1,1,none⟩ = some (.int .i64 n') := cell_at h1 1 rfl
  have b2 : W1.cell? ⟨w.heap.size + 1,2,none⟩ = some (.int .i64 g') := cell_at h1 2 rfl
  have b3 : W1.cell? ⟨w.heap.size + 1,3,none⟩ = some (.int .i64 lo') := cell_at h1 3 rfl
  have b4 : W1.cell? ⟨w.heap.size + 1,4,none⟩ = some (.int .i64 hi') := cell_at h1 4 rfl
  have b5 : W1.cell? ⟨w.heap.size + 1,5,none⟩ = some (.slice B0 gs'.length d0) := cell_at h1 5 rfl
  have b6 : W1.cell? ⟨w.heap.size + 1,6,none⟩ = some (.slice B1 os'.length d1) := cell_at h1 6 rfl
  have b7 : W1.cell? ⟨w.heap.size + 1,7,none⟩ = some (.slice B2 cs'.length d2) := cell_at h1 7 rfl
  have b8 : W1.cell? ⟨w.heap.size + 1,8,none⟩ = some (.slice B3 ss'.length d3) := cell_at h1 8 rfl
  have b9 : W1.cell? ⟨w.heap.size + 1,9,none⟩ = some (.slice B4 ts'.length d4) := cell_at h1 9 rfl
  have b10 : W1.cell? ⟨w.heap.size + 1,10,none⟩ = some (.slice B5 bs'.length d5) := cell_at h1 10 rfl
  have HB1 := Lib.hid hb1
  have HW1 := Lib.hid hW1
  clear h0 h1 hz1
  have hlt0 : w.heap.size < W1.heap.size := by rw [HW1.out]; simp; omega
  have hlt1 : w.heap.size + 1 < W1.heap.size := by rw [HW1.out]; simp
  obtain ⟨W2,hW2⟩ : ∃ y,y = (W1.alloc (.cells #[.int .i64 k,.int .i64 n,.int .i64 g,.int .i64 lo,.int .i64 hi] 3)).alloc (.cells #[.int .i64 k',.int .i64 n',.int .i64 g',.int .i64 lo',.int .i64 hi'] 3) := ⟨_,rfl⟩
  have HI1 : Hid (Is W2 [k,n,g,lo,hi] (.slice (some ⟨W1.heap.size,0,none⟩) 5 5)) := Lib.hid (by rw [hW2]; exact Vt.below (is_five W1 k n g lo hi hr1) ((Below.refl _ _).alloc (Nat.le_refl _) _))
  have HI2 : Hid (Is W2 [k',n',g',lo',hi'] (.slice (some ⟨W1.heap.size + 1,0,none⟩) 5 5)) := Lib.hid (by rw [hW2]; have := is_five (W1.alloc (.cells #[.int .i64 k,.int .i64 n,.int .i64 g,.int .i64 lo,.int .i64 hi] 3)) k' n' g' lo' hi' hr2; simpa using this)
  have HCM := Lib.hid (compareI_ok [k,n,g,lo,hi] [k',n',g',lo',hi'] W2 _ _ HI1.out HI2.out)
  rw [← hr] at HCM
  have HW2 := Lib.hid hW2
  have HB2 : Hid (Below w.heap.size w W2) := Lib.hid (by rw [hW2]; exact (hb1.alloc hb1.size _).alloc (by have := hb1.size; simp; omega) _)
  clear hr hr1 hr2 hb1 hW1 hW2
  go_enter Tryz.func31,Tryz.ntmps31
  go_upto_region 1 with fail
  rw [← HW1.out]
  have e5 : W2.cell? ⟨w.heap.size,5,none⟩ = some (.slice A0 gs.length c0) := by rw [HW2.out]; exact ca (ca a5 _) _
  have f5 : W2.cell? ⟨w.heap.size + 1,5,none⟩ = some (.slice B0 gs'.length d0) := by rw [HW2.out]; exact ca (ca b5 _) _
  have e6 : W2.cell? ⟨w.heap.size,6,none⟩ = some (.slice A1 os.length c1) := by rw [HW2.out]; exact ca (ca a6 _) _
  have f6 : W2.cell? ⟨w.heap.size + 1,6,none⟩ = some (.slice B1 os'.length d1) := by rw [HW2.out]; exact ca (ca b6 _) _
  have e7 : W2.cell? ⟨w.heap.size,7,none⟩ = some (.slice A2 cs.length c2) := by rw [HW2.out]; exact ca (ca a7 _) _
  have f7 : W2.cell? ⟨w.heap.size + 1,7,none⟩ = some (.slice B2 cs'.length d2) := by rw [HW2.out]; exact ca (ca b7 _) _
  have e8 : W2.cell? ⟨w.heap.size,8,none⟩ = some (.slice A3 ss.length c3) := by rw [HW2.out]; exact ca (ca a8 _) _
  have f8 : W2.cell? ⟨w.heap.size + 1,8,none⟩ = some (.slice B3 ss'.length d3) := by rw [HW2.out]; exact ca (ca b8 _) _
  have e9 : W2.cell? ⟨w.heap.size,9,none⟩ = some (.slice A4 ts.length c4) := by rw [HW2.out]; exact ca (ca a9 _) _
  have f9 : W2.cell? ⟨w.heap.size + 1,9,none⟩ = some (.slice B4 ts'.length d4) := by rw [HW2.out]; exact ca (ca b9 _) _
  have e10 : W2.cell? ⟨w.heap.size,10,none⟩ = some (.slice A5 bs.length c5) := by rw [HW2.out]; exact ca (ca a10 _) _
  have f10 : W2.cell? ⟨w.heap.size + 1,10,none⟩ = some (.slice B5 bs'.length d5) := by rw [HW2.out]; exact ca (ca b10 _) _
  go_upto_region 2 with (
    go_at_call 105
    rw [← HW2.out]
    refine HCM.out.mono ?_
    rintro e w' ⟨rfl,rfl⟩)
  clear a0 b0 a1 b1 a2 b2 a3 b3 a4 b4 a5 b5 a6 b6 a7 b7 a8 b8 a9 b9 a10 b10
  by_cases hr0 : r = 0
  · subst hr0
    go_upto_region 4 with fail
    refine start_ (n:=28) (S:=fun w' => w'.cell? ⟨w.heap.size,5,none⟩ = some (.slice A0 gs.length c0) ∧ w'.cell? ⟨w.heap.size,6,none⟩ = some (.slice A1 os.length c1) ∧ w'.cell? ⟨w.heap.size,7,none⟩ = some (.slice A2 cs.length c2) ∧ w'.cell? ⟨w.heap.size,8,none⟩ = some (.slice A3 ss.length c3) ∧ w'.cell? ⟨w.heap.size,9,none⟩ = some (.slice A4 ts.length c4) ∧ w'.cell? ⟨w.heap.size,10,none⟩ = some (.slice A5 bs.length c5) ∧ w'.cell? ⟨w.heap.size + 1,5,none⟩ = some (.slice B0 gs'.length d0) ∧ w'.cell? ⟨w.heap.size + 1,6,none⟩ = some (.slice B1 os'.length d1) ∧ w'.cell? ⟨w.heap.size + 1,7,none⟩ = some (.slice B2 cs'.length d2) ∧ w'.cell? ⟨w.heap.size + 1,8,none⟩ = some (.slice B3 ss'.length d3) ∧ w'.cell? ⟨w.heap.size + 1,9,none⟩ = some (.slice B4 ts'.length d4) ∧ w'.cell? ⟨w.heap.size + 1,10,none⟩ = some (.slice B5 bs'.length d5)) (ds := []) #[f_,f_,f_,f_,f_,f_,f_,f_,f_,f_,f_,f_,f_,f_,f_,f_,f_,f_,f_,f_,f_,f_,f_,f_,f_,f_,f_,f_] (by kernel_rfl) rfl rfl ⟨e5,e6,e7,e8,e9,e10,f5,f6,f7,f8,f9,f10⟩ (fun hHeld => ?_)
    refine pv_ (i:=0) (N:=some 33) (v:=?_) (a':=?_) rfl rfl (by kernel_rfl) (fun _ _ _ h => h) (Or.inl ⟨by rfl,?_⟩) ?_ ?_
    rotate_left;intro w';go_simp;with_reducible rfl;rotate_left;simp only [Act.put,sA_,sB_,sC_,i64_w,i32_w];rfl
    refine pv_ (i:=2) (N:=some 35) (v:=?_) (a':=?_) rfl rfl (by kernel_rfl) (fun _ _ _ h => h) (Or.inl ⟨by rfl,?_⟩) ?_ ?_
    rotate_left;intro w';go_simp;with_reducible rfl;rotate_left;simp only [Act.put,sA_,sB_,sC_,i64_w,i32_w];rfl
    refine pv_ (i:=5) (N:=some 38) (v:=?_) (a':=?_) rfl rfl (by kernel_rfl) (fun _ _ _ h => h) (Or.inl ⟨by rfl,?_⟩) ?_ ?_
    rotate_left;intro w';go_simp;with_reducible rfl;rotate_left;simp only [Act.put,sA_,sB_,sC_,i64_w,i32_w];rfl
    refine pv_ (i:=7) (N:=some 40) (v:=?_) (a':=?_) rfl rfl (by kernel_rfl) (fun _ _ _ h => h) (Or.inl ⟨by rfl,?_⟩) ?_ ?_
    rotate_left;intro w';go_simp;with_reducible rfl;rotate_left;simp only [Act.put,sA_,sB_,sC_,i64_w,i32_w];rfl
    refine pv_ (i:=10) (N:=some 43) (v:=?_) (a':=?_) rfl rfl (by kernel_rfl) (fun _ _ _ h => h) (Or.inl ⟨by rfl,?_⟩) ?_ ?_
    rotate_left;intro w';go_simp;with_reducible rfl;rotate_left;simp only [Act.put,sA_,sB_,sC_,i64_w,i32_w];rfl
    refine pv_ (i:=12) (N:=some 45) (v:=?_) (a':=?_) rfl rfl (by kernel_rfl) (fun _ _ _ h => h) (Or.inl ⟨by rfl,?_⟩) ?_ ?_
    rotate_left;intro w';go_simp;with_reducible rfl;rotate_left;simp only [Act.put,sA_,sB_,sC_,i64_w,i32_w];rfl
    refine pv_ (i:=15) (N:=some 48) (v:=?_) (a':=?_) rfl rfl (by kernel_rfl) (fun _ _ _ h => h) (Or.inl ⟨by rfl,?_⟩) ?_ ?_
    rotate_left;intro w';go_simp;with_reducible rfl;rotate_left;simp only [Act.put,sA_,sB_,sC_,i64_w,i32_w];rfl
    refine pv_ (i:=17) (N:=some 50) (v:=?_) (a':=?_) rfl rfl (by kernel_rfl) (fun _ _ _ h => h) (Or.inl ⟨by rfl,?_⟩) ?_ ?_
    rotate_left;intro w';go_simp;with_reducible rfl;rotate_left;simp only [Act.put,sA_,sB_,sC_,i64_w,i32_w];rfl
    refine pv_ (i:=20) (N:=some 53) (v:=?_) (a':=?_) rfl rfl (by kernel_rfl) (fun _ _ _ h => h) (Or.inl ⟨by rfl,?_⟩) ?_ ?_
    rotate_left;intro w';go_simp;with_reducible rfl;rotate_left;simp only [Act.put,sA_,sB_,sC_,i64_w,i32_w];rfl
    refine pv_ (i:=22) (N:=some 55) (v:=?_) (a':=?_) rfl rfl (by kernel_rfl) (fun _ _ _ h => h) (Or.inl ⟨by rfl,?_⟩) ?_ ?_
    rotate_left;intro w';go_simp;with_reducible rfl;rotate_left;simp only [Act.put,sA_,sB_,sC_,i64_w,i32_w];rfl
    refine tv_ (i:=1) (N:=some 34) (v:=?_) (a':=?_) rfl rfl (by kernel_rfl) (fun _ _ _ h => h) (Or.inl ⟨by rfl,?_⟩) hHeld ?_ ?_
    rotate_left;rintro w' ⟨s0,s1,s2,s3,s4,s5,s6,s7,s8,s9,s10,s11⟩;go_simp;with_reducible rfl;rotate_left;simp only [Act.put,sA_,sB_,sC_,i64_w,i32_w];rfl
    refine tv_ (i:=3) (N:=some 36) (v:=?_) (a':=?_) rfl rfl (by kernel_rfl) (fun _ _ _ h => h) (Or.inl ⟨by rfl,?_⟩) hHeld ?_ ?_
    rotate_left;rintro w' ⟨s0,s1,s2,s3,s4,s5,s6,s7,s8,s9,s10,s11⟩;go_simp;with_reducible rfl;rotate_left;simp only [Act.put,sA_,sB_,sC_,i64_w,i32_w];rfl
    refine tv_ (i:=6) (N:=some 39) (v:=?_) (a':=?_) rfl rfl (by kernel_rfl) (fun _ _ _ h => h) (Or.inl ⟨by rfl,?_⟩) hHeld ?_ ?_
    rotate_left;rintro w' ⟨s0,s1,s2,s3,s4,s5,s6,s7,s8,s9,s10,s11⟩;go_simp;with_reducible rfl;rotate_left;simp only [Act.put,sA_,sB_,sC_,i64_w,i32_w];rfl
    refine tv_ (i:=8) (N:=some 41) (v:=?_) (a':=?_) rfl rfl (by kernel_rfl) (fun _ _ _ h => h) (Or.inl ⟨by rfl,?_⟩) hHeld ?_ ?_
    rotate_left;rintro w' ⟨s0,s1,s2,s3,s4,s5,s6,s7,s8,s9,s10,s11⟩;go_simp;with_reducible rfl;rotate_left;simp only [Act.put,sA_,sB_,sC_,i64_w,i32_w];rfl
    refine tv_ (i:=11) (N:=some 44) (v:=?_) (a':=?_) rfl rfl (by kernel_rfl) (fun _ _ _ h => h) (Or.inl ⟨by rfl,?_⟩) hHeld ?_ ?_
    rotate_left;rintro w' ⟨s0,s1,s2,s3,s4,s5,s6,s7,s8,s9,s10,s11⟩;go_simp;with_reducible rfl;rotate_left;simp only [Act.put,sA_,sB_,sC_,i64_w,i32_w];rfl
    refine tv_ (i:=13) (N:=some 46) (v:=?_) (a':=?_) rfl rfl (by kernel_rfl) (fun _ _ _ h => h) (Or.inl ⟨by rfl,?_⟩) hHeld ?_ ?_
    rotate_left;rintro w' ⟨s0,s1,s2,s3,s4,s5,s6,s7,s8,s9,s10,s11⟩;go_simp;with_reducible rfl;rotate_left;simp only [Act.put,sA_,sB_,sC_,i64_w,i32_w];rfl
    refine tv_ (i:=16) (N:=some 49) (v:=?_) (a':=?_) rfl rfl (by kernel_rfl) (fun _ _ _ h => h) (Or.inl ⟨by rfl,?_⟩) hHeld ?_ ?_
    rotate_left;rintro w' ⟨s0,s1,s2,s3,s4,s5,s6,s7,s8,s9,s10,s11⟩;go_simp;with_reducible rfl;rotate_left;simp only [Act.put,sA_,sB_,sC_,i64_w,i32_w];rfl
    refine tv_ (i:=18) (N:=some 51) (v:=?_) (a':=?_) rfl rfl (by kernel_rfl) (fun _ _ _ h => h) (Or.inl ⟨by rfl,?_⟩) hHeld ?_ ?_
    rotate_left;rintro w' ⟨s0,s1,s2,s3,s4,s5,s6,s7,s8,s9,s10,s11⟩;go_simp;with_reducible rfl;rotate_left;simp only [Act.put,sA_,sB_,sC_,i64_w,i32_w];rfl
    refine tv_ (i:=21) (N:=some 54) (v:=?_) (a':=?_) rfl rfl (by kernel_rfl) (fun _ _ _ h => h) (Or.inl ⟨by rfl,?_⟩) hHeld ?_ ?_
    rotate_left;rintro w' ⟨s0,s1,s2,s3,s4,s5,s6,s7,s8,s9,s10,s11⟩;go_simp;with_reducible rfl;rotate_left;simp only [Act.put,sA_,sB_,sC_,i64_w,i32_w];rfl
    refine tv_ (i:=23) (N:=some 56) (v:=?_) (a':=?_) rfl rfl (by kernel_rfl) (fun _ _ _ h => h) (Or.inl ⟨by rfl,?_⟩) hHeld ?_ ?_
    rotate_left;rintro w' ⟨s0,s1,s2,s3,s4,s5,s6,s7,s8,s9,s10,s11⟩;go_simp;with_reducible rfl;rotate_left;simp only [Act.put,sA_,sB_,sC_,i64_w,i32_w];rfl
    refine one_ (i:=4) (N:=some 37) #[t_,t_,t_,t_,t_,t_,t_,t_,t_,f_,t_,t_,t_,t_,f_,t_,t_,t_,t_,f_,t_,t_,t_,t_,f_,f_,f_,f_] rfl rfl (by kernel_rfl) (by decide) (fun K hK => ?_)
    refine goes_ Tryz.func105 (by kernel_rfl) rfl #[.slice A0 gs.length c0,.slice B0 gs'.length d0] (by rfl) rfl rfl (by simp only [List.map_toArray,List.map_cons,List.map_nil]; rfl) ?_
    refine (HC0.out _ (HB2.out.drew)).mono ?_
    rintro e w3 ⟨rfl,rfl⟩
    refine ⟨_,rfl,?_⟩
    refine hK.out _ _ ⟨hHeld.1,hHeld.2.1,hHeld.2.2.1,hHeld.2.2.2.1,hHeld.2.2.2.2.1,hHeld.2.2.2.2.2.1,hHeld.2.2.2.2.2.2.1,hHeld.2.2.2.2.2.2.2.1,hHeld.2.2.2.2.2.2.2.2.1,hHeld.2.2.2.2.2.2.2.2.2.1,hHeld.2.2.2.2.2.2.2.2.2.2.1,hHeld.2.2.2.2.2.2.2.2.2.2.2⟩ (fun hHeld => ?_)
    clear hK K
    refine norm_ (a':=?_) ?_ ?_
    rotate_left
    · show Act.put _ (some 37) _ = _
      simp only [Act.put,sA_,sB_,sC_,i64_w,i32_w]
      rfl
    refine one_ (i:=9) (N:=some 42) #[t_,t_,t_,t_,t_,t_,t_,t_,t_,t_,t_,t_,t_,t_,f_,t_,t_,t_,t_,f_,t_,t_,t_,t_,f_,f_,f_,f_] rfl rfl (by kernel_rfl) (by decide) (fun K hK => ?_)
    refine goes_ Tryz.func107 (by kernel_rfl) rfl #[.slice A1 os.length c1,.slice B1 os'.length d1,.func (.func 108) #[] #[]] (by rfl) rfl rfl (by simp only [List.map_toArray,List.map_cons,List.map_nil]; rfl) ?_
    refine (HC1.out _ (HB2.out.drew)).mono ?_
    rintro e w4 ⟨rfl,hb4⟩
    have HB4 : Hid (Below w.heap.size w w4) := Lib.hid ((HB2.out.drew).trans (hb4.mono HB2.out.size))
    refine ⟨_,rfl,?_⟩
    refine hK.out _ _ ⟨(Below.cellOf hb4 hHeld.1),(Below.cellOf hb4 hHeld.2.1),(Below.cellOf hb4 hHeld.2.2.1),(Below.cellOf hb4 hHeld.2.2.2.1),(Below.cellOf hb4 hHeld.2.2.2.2.1),(Below.cellOf hb4 hHeld.2.2.2.2.2.1),(Below.cellOf hb4 hHeld.2.2.2.2.2.2.1),(Below.cellOf hb4 hHeld.2.2.2.2.2.2.2.1),(Below.cellOf hb4 hHeld.2.2.2.2.2.2.2.2.1),(Below.cellOf hb4 hHeld.2.2.2.2.2.2.2.2.2.1),(Below.cellOf hb4 hHeld.2.2.2.2.2.2.2.2.2.2.1),(Below.cellOf hb4 hHeld.2.2.2.2.2.2.2.2.2.2.2)⟩ (fun hHeld => ?_)
    clear hK K
    refine norm_ (a':=?_) ?_ ?_
    rotate_left
    · show Act.put _ (some 42) _ = _
      simp only [Act.put,sA_,sB_,sC_,i64_w,i32_w]
      rfl
    refine one_ (i:=14) (N:=some 47) #[t_,t_,t_,t_,t_,t_,t_,t_,t_,t_,t_,t_,t_,t_,t_,t_,t_,t_,t_,f_,t_,t_,t_,t_,f_,f_,f_,f_] rfl rfl (by kernel_rfl) (by decide) (fun K hK => ?_)
    refine goes_ Tryz.func109 (by kernel_rfl) rfl #[.slice A2 cs.length c2,.slice B2 cs'.length d2,.func (.func 110) #[] #[]] (by rfl) rfl rfl (by simp only [List.map_toArray,List.map_cons,List.map_nil]; rfl) ?_
    refine (HC2.out _ HB4.out).mono ?_
    rintro e w5 ⟨rfl,hb5⟩
    have HB5 : Hid (Below w.heap.size w w5) := Lib.hid (HB4.out.trans (hb5.mono HB4.out.size))
    refine ⟨_,rfl,?_⟩
    refine hK.out _ _ ⟨(Below.cellOf hb5 hHeld.1),(Below.cellOf hb5 hHeld.2.1),(Below.cellOf hb5 hHeld.2.2.1),(Below.cellOf hb5 hHeld.2.2.2.1),(Below.cellOf hb5 hHeld.2.2.2.2.1),(Below.cellOf hb5 hHeld.2.2.2.2.2.1),(Below.cellOf hb5 hHeld.2.2.2.2.2.2.1),(Below.cellOf hb5 hHeld.2.2.2.2.2.2.2.1),(Below.cellOf hb5 hHeld.2.2.2.2.2.2.2.2.1),(Below.cellOf hb5 hHeld.2.2.2.2.2.2.2.2.2.1),(Below.cellOf hb5 hHeld.2.2.2.2.2.2.2.2.2.2.1),(Below.cellOf hb5 hHeld.2.2.2.2.2.2.2.2.2.2.2)⟩ (fun hHeld => ?_)
    clear hK K
    refine norm_ (a':=?_) ?_ ?_
    rotate_left
    · show Act.put _ (some 47) _ = _
      simp only [Act.put,sA_,sB_,sC_,i64_w,i32_w]
      rfl
    refine one_ (i:=19) (N:=some 52) #[t_,t_,t_,t_,t_,t_,t_,t_,t_,t_,t_,t_,t_,t_,t_,t_,t_,t_,t_,t_,t_,t_,t_,t_,f_,f_,f_,f_] rfl rfl (by kernel_rfl) (by decide) (fun K hK => ?_)
    refine goes_ Tryz.func105 (by kernel_rfl) rfl #[.slice A3 ss.length c3,.slice B3 ss'.length d3] (by rfl) rfl rfl (by simp only [List.map_toArray,List.map_cons,List.map_nil]; rfl) ?_
    refine (HC3.out _ HB5.out).mono ?_
    rintro e w6 ⟨rfl,rfl⟩
    refine ⟨_,rfl,?_⟩
    refine hK.out _ _ ⟨hHeld.1,hHeld.2.1,hHeld.2.2.1,hHeld.2.2.2.1,hHeld.2.2.2.2.1,hHeld.2.2.2.2.2.1,hHeld.2.2.2.2.2.2.1,hHeld.2.2.2.2.2.2.2.1,hHeld.2.2.2.2.2.2.2.2.1,hHeld.2.2.2.2.2.2.2.2.2.1,hHeld.2.2.2.2.2.2.2.2.2.2.1,hHeld.2.2.2.2.2.2.2.2.2.2.2⟩ (fun hHeld => ?_)
    clear hK K
    refine norm_ (a':=?_) ?_ ?_
    rotate_left
    · show Act.put _ (some 52) _ = _
      simp only [Act.put,sA_,sB_,sC_,i64_w,i32_w]
      rfl
    refine one_ (i:=24) (N:=some 57) #[t_,t_,t_,t_,t_,t_,t_,t_,t_,t_,t_,t_,t_,t_,t_,t_,t_,t_,t_,t_,t_,t_,t_,t_,t_,f_,f_,f_] rfl rfl (by kernel_rfl) (by decide) (fun K hK => ?_)
    refine goes_ Tryz.func111 (by kernel_rfl) rfl #[.slice A4 ts.length c4,.slice B4 ts'.length d4,.func (.func 112) #[] #[]] (by rfl) rfl rfl (by simp only [List.map_toArray,List.map_cons,List.map_nil]; rfl) ?_
    refine (HC4.out _ HB5.out).mono ?_
    rintro e w7 ⟨rfl,hb7⟩
    have HB7 : Hid (Below w.heap.size w w7) := Lib.hid (HB5.out.trans (hb7.mono HB5.out.size))
    have HIS := Lib.hid (is_five w7 q0 q1 q2 q3 q4 HQ.out)
    refine ⟨_,rfl,?_⟩
    refine hK.out _ _ ⟨(Below.cellOf hb7 hHeld.1),(Below.cellOf hb7 hHeld.2.1),(Below.cellOf hb7 hHeld.2.2.1),(Below.cellOf hb7 hHeld.2.2.2.1),(Below.cellOf hb7 hHeld.2.2.2.2.1),(Below.cellOf hb7 hHeld.2.2.2.2.2.1),(Below.cellOf hb7 hHeld.2.2.2.2.2.2.1),(Below.cellOf hb7 hHeld.2.2.2.2.2.2.2.1),(Below.cellOf hb7 hHeld.2.2.2.2.2.2.2.2.1),(Below.cellOf hb7 hHeld.2.2.2.2.2.2.2.2.2.1),(Below.cellOf hb7 hHeld.2.2.2.2.2.2.2.2.2.2.1),(Below.cellOf hb7 hHeld.2.2.2.2.2.2.2.2.2.2.2)⟩ (fun hHeld => ?_)
    clear hK K
    refine norm_ (a':=?_) ?_ ?_
    rotate_left
    · show Act.put _ (some 57) _ = _
      simp only [Act.put,sA_,sB_,sC_,i64_w,i32_w]
      rfl
    refine one_ (i:=25) (N:=some 58) #[t_,t_,t_,t_,t_,t_,t_,t_,t_,t_,t_,t_,t_,t_,t_,t_,t_,t_,t_,t_,t_,t_,t_,t_,t_,t_,f_,f_] rfl rfl (by kernel_rfl) (by decide) (fun K hK => ?_)
    refine value_ (w1:=?_) (v:=?_) (by rfl) rfl ?_ ?_
    rotate_left 2
    · go_simp
      constructor
      · rfl
      · rfl
    refine hK.out _ _ ⟨(ca hHeld.1 _),(ca hHeld.2.1 _),(ca hHeld.2.2.1 _),(ca hHeld.2.2.2.1 _),(ca hHeld.2.2.2.2.1 _),(ca hHeld.2.2.2.2.2.1 _),(ca hHeld.2.2.2.2.2.2.1 _),(ca hHeld.2.2.2.2.2.2.2.1 _),(ca hHeld.2.2.2.2.2.2.2.2.1 _),(ca hHeld.2.2.2.2.2.2.2.2.2.1 _),(ca hHeld.2.2.2.2.2.2.2.2.2.2.1 _),(ca hHeld.2.2.2.2.2.2.2.2.2.2.2 _)⟩ (fun hHeld => ?_)
    clear hK K
    refine norm_ (a':=?_) ?_ ?_
    rotate_left
    · show Act.put _ (some 58) _ = _
      simp only [Act.put,sA_,sB_,sC_,i64_w,i32_w]
      rfl
    refine one_ (i:=26) (N:=some 59) #[t_,t_,t_,t_,t_,t_,t_,t_,t_,t_,t_,t_,t_,t_,t_,t_,t_,t_,t_,t_,t_,t_,t_,t_,t_,t_,t_,f_] rfl rfl (by kernel_rfl) (by decide) (fun K hK => ?_)
    refine goes_ Tryz.func106 (by kernel_rfl) rfl #[.slice (some ⟨w7.heap.size,0,none⟩) 5 5] (by rfl) rfl rfl (by simp only [List.map_toArray,List.map_cons,List.map_nil]; rfl) ?_
    refine (orI_ok [q0,q1,q2,q3,q4] _ _ HIS.out).mono ?_
    rintro e w8 ⟨rfl,rfl⟩
    refine ⟨_,rfl,?_⟩
    refine hK.out _ _ ⟨hHeld.1,hHeld.2.1,hHeld.2.2.1,hHeld.2.2.2.1,hHeld.2.2.2.2.1,hHeld.2.2.2.2.2.1,hHeld.2.2.2.2.2.2.1,hHeld.2.2.2.2.2.2.2.1,hHeld.2.2.2.2.2.2.2.2.1,hHeld.2.2.2.2.2.2.2.2.2.1,hHeld.2.2.2.2.2.2.2.2.2.2.1,hHeld.2.2.2.2.2.2.2.2.2.2.2⟩ (fun hHeld => ?_)
    clear hK K
    refine norm_ (a':=?_) ?_ ?_
    rotate_left
    · show Act.put _ (some 59) _ = _
      simp only [Act.put,sA_,sB_,sC_,i64_w,i32_w]
      rfl
    refine pv_ (i:=27) (N:=some 6) (v:=?_) (a':=?_) rfl rfl (by kernel_rfl) (fun _ _ _ h => h) (Or.inl ⟨by rfl,?_⟩) ?_ ?_
    rotate_left;intro w';go_simp;with_reducible rfl;rotate_left;simp only [Act.put,sA_,sB_,sC_,i64_w,i32_w];rfl
    refine done_ (by kernel_rfl) ?_
    rw [← HQQ.out]
    obtain ⟨e5,e6,e7,e8,e9,e10,f5,f6,f7,f8,f9,f10⟩ := hHeld
    have HB8 : Hid (Below w.heap.size w (w7.alloc (.cells #[.int .i64 q0,.int .i64 q1,.int .i64 q2,.int .i64 q3,.int .i64 q4] 3))) := Lib.hid (HB7.out.alloc HB7.out.size _)
    by_cases hq0 : q = 0
    · subst hq0
      go_wp2_with (
        go_at_call 113
        refine (HREC.out _ HB8.out).mono ?_
        rintro e w9 ⟨rfl,hb9⟩
        have HB9 := Lib.hid (HB8.out.trans (hb9.mono HB8.out.size))
        clear hb9)
      go_ret
      exact ⟨by rw [show res = lexC cmpB bs bs' by simpa using HRES.out]; rfl,HB9.out⟩
    · have hr1 : (q == 0) = false := by simpa using hq0
      go_wp2_with fail
      go_ret
      exact ⟨by rw [show res = q by have := HRES.out; simpa [hq0] using this]; rfl,HB8.out⟩
  · have hr1 : (r == 0) = false := by simpa using hr0
    go_wp2_with fail
    go_ret
    exact ⟨by rw [HRES.out,if_neg hr0]; rfl,HB2.out⟩
end Go.Proofs.YtjojbhkgdkcaoaaGreat
namespace Go.Bh
def BR (b : Be) : Prop := ∀ x ∈ [b.kind,b.n,b.gate,b.lo,b.hi],InR x
end Go.Bh
namespace Go.Proofs.YtjojbhkgdkcaoaaGreat
open Go Go.RowKit Go.Bh Go.Shelf Go.Proofs.YtjojbhkgdkcaoaaGreatW.PrintLast
theorem br_get {w : World} {l : List Be} {v : Value} {i : Nat} {b : Be} (h : BsP (fun _ => True) w l v) (hi : l[i]? = some b) : BR b := by
  obtain ⟨A,c,rfl,_,_⟩ := VAt.slice h
  obtain ⟨x0,x1,x2,x3,x4,x5,x6,x7,x8,x9,x10⟩ := b
  obtain ⟨_,_,_,_,_,_,_,_,_,_,_,_,_,_,rfl,_,_,_,_,_,_,_,_,_,_,_,_,i0,i1,i2,i3,i4,_⟩ := BsP.get h hi
  intro x hx
  simp only [Be.kind,Be.n,Be.gate,Be.lo,Be.hi,List.mem_cons,List.mem_nil_iff,or_false] at hx
  rcases hx with rfl | rfl | rfl | rfl | rfl <;> assumption
theorem cmpB_ok : ∀ (x y : Be) (w : World) (u v : Value),BR x → BR y → Bv w x u → Bv w y v →
    Calls Tryz.prog 31 #[u,v] w fun e w' => e = .returned (.int .i64 (cmpB x y)) ∧ Below w.heap.size w w' := by
  refine Be.ind fun kind n gate lo hi gates offers conds sorts t l ih => ?_
  rintro ⟨kind',n',gate',lo',hi',gates',offers',conds',sorts',t',l'⟩ w u v hr1 hr2 ⟨vg,vo,vc,vs,vt,vl,rfl,h1,h2,h3,h4,h5,h6⟩ ⟨wg,wo,wc,ws,wt,wl,rfl,g1,g2,g3,g4,g5,g6⟩
  obtain ⟨A0,c0,rfl,_,_⟩ := VAt.slice h1
  obtain ⟨A1,c1,rfl,_,_⟩ := VAt.slice h2
  obtain ⟨A2,c2,rfl,_,_⟩ := VAt.slice h3
  obtain ⟨A3,c3,rfl,_,_⟩ := VAt.slice h4
  obtain ⟨A4,c4,rfl,_,_⟩ := VAt.slice h5
  obtain ⟨A5,c5,rfl,_,_⟩ := VAt.slice h6
  obtain ⟨B0,d0,rfl,_,_⟩ := VAt.slice g1
  obtain ⟨B1,d1,rfl,_,_⟩ := VAt.slice g2
  obtain ⟨B2,d2,rfl,_,_⟩ := VAt.slice g3
  obtain ⟨B3,d3,rfl,_,_⟩ := VAt.slice g4
  obtain ⟨B4,d4,rfl,_,_⟩ := VAt.slice g5
  obtain ⟨B5,d5,rfl,_,_⟩ := VAt.slice g6
  exact cmpB1_ok kind n gate lo hi gates offers conds sorts t l kind' n' gate' lo' hi' gates' offers' conds' sorts' t' l' w A0 A1 A2 A3 A4 A5 B0 B1 B2 B3 B4 B5 c0 c1 c2 c3 c4 c5 d0 d1 d2 d3 d4 d5 hr1 hr2 h1 g1 h2 g2 h3 g3 h4 g4 h5 g5 h6 g6
    (fun W hW => lists113_ok fnIs31 cmpB (Vt.below h6 hW) (Vt.below g6 hW) (fun i x0 x1 x2 x3 x4 x5 x6 x7 x8 x9 x10 y0 y1 y2 y3 y4 y5 y6 y7 y8 y9 y10 hx hy W' A5 B5 c5 d5 A6 B6 c6 d6 A7 B7 c7 d7 A8 B8 c8 d8 A9 B9 c9 d9 A10 B10 c10 d10 hB p5 q5 p6 q6 p7 q7 p8 q8 p9 q9 p10 q10 =>
      ih _ (List.mem_of_getElem? hx) (.mk y0 y1 y2 y3 y4 y5 y6 y7 y8 y9 y10) W' _ _ (br_get h6 hx) (br_get g6 hy) ⟨_,_,_,_,_,_,rfl,p5,p6,p7,p8,p9,p10⟩ ⟨_,_,_,_,_,_,rfl,q5,q6,q7,q8,q9,q10⟩))
theorem same_ok (x y : Be) (w : World) (u v : Value) (hx : BR x) (hy : BR y) (hu : Bv w x u) (hv : Bv w y v) :
    Calls Tryz.prog 33 #[u,v] w fun e w' => e = .returned (.bool (cmpB x y == 0)) ∧ Below w.heap.size w w' := by
  have hb : ∀ o o',Below w.heap.size w ((w.alloc o).alloc o') := fun o o' => ((Below.refl _ w).alloc (Nat.le_refl _) _).alloc (by simp) _
  have HC := Lib.hid (fun o o' => cmpB_ok x y _ _ _ hx hy (BV.below hu (hb o o')) (BV.below hv (hb o o')))
  have HB := Lib.hid hb
  obtain ⟨vg,vo,vc,vs,vt,vl,rfl,h1,h2,h3,h4,h5,h6⟩ := hu
  obtain ⟨wg,wo,wc,ws,wt,wl,rfl,g1,g2,g3,g4,g5,g6⟩ := hv
  obtain ⟨A0,c0,rfl,_,_⟩ := VAt.slice h1
  obtain ⟨A1,c1,rfl,_,_⟩ := VAt.slice h2
  obtain ⟨A2,c2,rfl,_,_⟩ := VAt.slice h3
  obtain ⟨A3,c3,rfl,_,_⟩ := VAt.slice h4
  obtain ⟨A4,c4,rfl,_,_⟩ := VAt.slice h5
  obtain ⟨A5,c5,rfl,_,_⟩ := VAt.slice h6
  obtain ⟨B0,d0,rfl,_,_⟩ := VAt.slice g1
  obtain ⟨B1,d1,rfl,_,_⟩ := VAt.slice g2
  obtain ⟨B2,d2,rfl,_,_⟩ := VAt.slice g3
  obtain ⟨B3,d3,rfl,_,_⟩ := VAt.slice g4
  obtain ⟨B4,d4,rfl,_,_⟩ := VAt.slice g5
  obtain ⟨B5,d5,rfl,_,_⟩ := VAt.slice g6
  obtain ⟨kind,n,gate,lo,hi,gates,offers,conds,sorts,t,l⟩ := x
  obtain ⟨kind',n',gate',lo',hi',gates',offers',conds',sorts',t',l'⟩ := y
  dsimp only [Be.kind,Be.n,Be.gate,Be.lo,Be.hi,Be.gates,Be.offers,Be.conds,Be.sorts,Be.t,Be.l] at HC ⊢
  clear hx hy hb h1 h2 h3 h4 h5 h6 g1 g2 g3 g4 g5 g6
  obtain ⟨r,hr⟩ : ∃ z,z = cmpB (.mk kind n gate lo hi gates offers conds sorts t l) (.mk kind' n' gate' lo' hi' gates' offers' conds' sorts' t' l') := ⟨_,rfl⟩
  rw [← hr] at HC ⊢
  clear hr
  go_enter Tryz.func33,Tryz.ntmps33
  go_wp2_with (
    go_at_call 31
    refine (HC.out _ _).mono ?_
    rintro e w5 ⟨rfl,hb5⟩
    have HB5 := Lib.hid hb5
    clear hb5)
  go_ret
  exact ⟨rfl,(HB.out _ _).trans (HB5.out.mono (by simp; omega))⟩
end Go.Proofs.YtjojbhkgdkcaoaaGreat
namespace Go.Bh
def Tri (p q r : Int) : Prop := p ≤ 0 → q ≤ 0 → r ≤ 0 ∧ (r = 0 → p = 0 ∧ q = 0)
theorem tri_zero : Tri 0 0 0 := fun _ _ => ⟨Int.le_refl _,fun _ => ⟨rfl,rfl⟩⟩
theorem tri_then {p q r p' q' r' : Int} (h : Tri p q r) (h' : Tri p' q' r') : Tri (if p = 0 then p' else p) (if q = 0 then q' else q) (if r = 0 then r' else r) := by
  intro h1 h2
  have hp : p ≤ 0 := by split at h1 <;> omega
  have hq : q ≤ 0 := by split at h2 <;> omega
  obtain ⟨hr,hz⟩ := h hp hq
  by_cases hr0 : r = 0
  · obtain ⟨rfl,rfl⟩ := hz hr0
    subst hr0
    simpa using h' (by simpa using h1) (by simpa using h2)
  · rw [if_neg hr0]
    exact ⟨hr,fun e => absurd e hr0⟩
theorem cmpI_le (x y : Int) : (cmpI x y ≤ 0 ↔ x ≤ y) ∧ (cmpI x y = 0 ↔ x = y) := by
  unfold cmpI
  split
  · omega
  · split <;> omega
theorem tri_cmpI (x y z : Int) : Tri (cmpI x y) (cmpI y z) (cmpI x z) := by
  intro h1 h2
  have a := cmpI_le x y
  have b := cmpI_le y z
  have c := cmpI_le x z
  omega
theorem neg_cmpI (x y : Int) : cmpI y x = -cmpI x y := by
  unfold cmpI
  by_cases h1 : x < y <;> by_cases h2 : y < x <;> simp only [h1,h2,if_true,if_false,ite_true,ite_false] <;> omega
theorem neg_then {p q p' q' : Int} (h : q = -p) (h' : q' = -p') : (if q = 0 then q' else q) = -(if p = 0 then p' else p) := by
  by_cases hp : p = 0
  · have hq : q = 0 := by omega
    simp only [hp,hq,if_true,ite_true,h']
  · have hq : ¬ q = 0 := by omega
    rw [if_neg hp,if_neg hq,h]
theorem neg_lexC {α : Type} {c : α → α → Int} : ∀ (a b : List α),(∀ x ∈ a,∀ y,c y x = -c x y) → lexC c b a = -lexC c a b
  | [],[],_ => by simp [lexC]
  | [],_ :: _,_ => by simp [lexC]
  | _ :: _,[],_ => by simp [lexC]
  | x :: a,y :: b,h => by
    rw [lexC,lexC]
    exact neg_then (h x (by simp) y) (neg_lexC a b fun z hz => h z (by simp [hz]))
theorem tri_lexC {α : Type} {c : α → α → Int} : ∀ (a b d : List α),(∀ x ∈ a,∀ y z,Tri (c x y) (c y z) (c x z)) → Tri (lexC c a b) (lexC c b d) (lexC c a d)
  | [],[],[],_ => by simp only [lexC]; exact tri_zero
  | [],[],_ :: _,_ => by simp only [lexC]; unfold Tri; omega
  | [],_ :: _,[],_ => by simp only [lexC]; unfold Tri; omega
  | [],_ :: _,_ :: _,_ => by simp only [lexC]; unfold Tri; omega
  | _ :: _,[],[],_ => by simp only [lexC]; unfold Tri; omega
  | _ :: _,[],_ :: _,_ => by simp only [lexC]; unfold Tri; omega
  | _ :: _,_ :: _,[],_ => by simp only [lexC]; unfold Tri; omega
  | x :: a,y :: b,z :: d,h => by
    simp only [lexC]
    exact tri_then (h x (by simp) y z) (tri_lexC a b d fun u hu => h u (by simp [hu]))
theorem neg_cmpT : ∀ (x y : Tm),cmpT y x = -cmpT x y := by
  refine Tm.ind fun k n l ih => ?_
  rintro ⟨k',n',l'⟩
  rw [cmpT,cmpT,cmpTs_eq,cmpTs_eq]
  refine neg_then ?_ (neg_lexC l l' fun x hx y => ih x hx y)
  unfold orI orI orI orI
  exact neg_then (neg_cmpI _ _) (neg_then (neg_cmpI _ _) (neg_then (neg_cmpI _ _) (by simp)))
theorem tri_cmpT : ∀ (x y z : Tm),Tri (cmpT x y) (cmpT y z) (cmpT x z) := by
  refine Tm.ind fun k n l ih => ?_
  rintro ⟨k',n',l'⟩ ⟨k'',n'',l''⟩
  rw [cmpT,cmpT,cmpT,cmpTs_eq,cmpTs_eq,cmpTs_eq]
  refine tri_then ?_ (tri_lexC l l' l'' fun x hx y z => ih x hx y z)
  unfold orI orI orI orI
  exact tri_then (tri_cmpI _ _ _) (tri_then (tri_cmpI _ _ _) (tri_then (tri_cmpI _ _ _) tri_zero))
theorem neg_cmpO (x y : Off) : cmpO y x = -cmpO x y := by
  have h : orI [cmpI y.s x.s,cmpT y.t x.t] = -orI [cmpI x.s y.s,cmpT x.t y.t] := by
    unfold orI orI orI
    exact neg_then (neg_cmpI _ _) (neg_then (neg_cmpT _ _) (by simp))
  unfold cmpO
  rw [h]
  cases hx : x.inn <;> cases hy : y.inn <;> simp
theorem tri_cmpO (x y z : Off) : Tri (cmpO x y) (cmpO y z) (cmpO x z) := by
  have h : Tri (orI [cmpI x.s y.s,cmpT x.t y.t]) (orI [cmpI y.s z.s,cmpT y.t z.t]) (orI [cmpI x.s z.s,cmpT x.t z.t]) := by
    unfold orI orI orI
    exact tri_then (tri_cmpI _ _ _) (tri_then (tri_cmpT _ _ _) tri_zero)
  unfold cmpO
  cases hx : x.inn <;> cases hy : y.inn <;> cases hz : z.inn <;> simp <;> first | exact h | (unfold Tri; omega)
theorem neg_cmpP (x y : Pr) : cmpP y x = -cmpP x y := by
  unfold cmpP orI orI orI
  exact neg_then (neg_cmpT _ _) (neg_then (neg_cmpT _ _) (by simp))
theorem tri_cmpP (x y z : Pr) : Tri (cmpP x y) (cmpP y z) (cmpP x z) := by
  unfold cmpP orI orI orI
  exact tri_then (tri_cmpT _ _ _) (tri_then (tri_cmpT _ _ _) tri_zero)
theorem neg_ints (a b : List Int) : lexC cmpI b a = -lexC cmpI a b := neg_lexC a b fun x _ y => neg_cmpI x y
theorem tri_ints (a b d : List Int) : Tri (lexC cmpI a b) (lexC cmpI b d) (lexC cmpI a d) := tri_lexC a b d fun x _ y z => tri_cmpI x y z
theorem neg_cmpB : ∀ (x y : Be),cmpB y x = -cmpB x y := by
  refine Be.ind fun kind n gate lo hi gates offers conds sorts t l ih => ?_
  rintro ⟨kind',n',gate',lo',hi',gates',offers',conds',sorts',t',l'⟩
  rw [cmpB,cmpB,cmpBs_eq,cmpBs_eq]
  refine neg_then (neg_ints _ _) (neg_then ?_ (neg_lexC l l' fun x hx y => ih x hx y))
  unfold orI orI orI orI orI orI
  exact neg_then (neg_ints _ _) (neg_then (neg_lexC _ _ fun x _ y => neg_cmpO x y) (neg_then (neg_lexC _ _ fun x _ y => neg_cmpP x y) (neg_then (neg_ints _ _) (neg_then (neg_lexC _ _ fun x _ y => neg_cmpT x y) (by simp)))))
theorem tri_cmpB : ∀ (x y z : Be),Tri (cmpB x y) (cmpB y z) (cmpB x z) := by
  refine Be.ind fun kind n gate lo hi gates offers conds sorts t l ih => ?_
  rintro ⟨kind',n',gate',lo',hi',gates',offers',conds',sorts',t',l'⟩ ⟨kind'',n'',gate'',lo'',hi'',gates'',offers'',conds'',sorts'',t'',l''⟩
  rw [cmpB,cmpB,cmpB,cmpBs_eq,cmpBs_eq,cmpBs_eq]
  refine tri_then (tri_ints _ _ _) (tri_then ?_ (tri_lexC l l' l'' fun x hx y z => ih x hx y z))
  unfold orI orI orI orI orI orI
  exact tri_then (tri_ints _ _ _) (tri_then (tri_lexC _ _ _ fun x _ y z => tri_cmpO x y z) (tri_then (tri_lexC _ _ _ fun x _ y z => tri_cmpP x y z) (tri_then (tri_ints _ _ _) (tri_then (tri_lexC _ _ _ fun x _ y z => tri_cmpT x y z) tri_zero))))
structure Lb where
  g : Int
  l : List Tm
def cmpL (x y : Lb) : Int := orI [cmpI x.g y.g,lexC cmpT x.l y.l]
theorem neg_cmpL (x y : Lb) : cmpL y x = -cmpL x y := by
  unfold cmpL orI orI orI
  exact neg_then (neg_cmpI _ _) (neg_then (neg_lexC _ _ fun x _ y => neg_cmpT x y) (by simp))
theorem tri_cmpL (x y z : Lb) : Tri (cmpL x y) (cmpL y z) (cmpL x z) := by
  unfold cmpL orI orI orI
  exact tri_then (tri_cmpI _ _ _) (tri_then (tri_lexC _ _ _ fun x _ y z => tri_cmpT x y z) tri_zero)
theorem ord_both {α : Type} {c : α → α → Int} (hn : ∀ x y,c y x = -c x y) (ht : ∀ x y z,Tri (c x y) (c y z) (c x z)) (x y z : α) :
    c x x = 0 ∧ (c x y ≤ 0 → c y z ≤ 0 → c x z ≤ 0) ∧ (0 ≤ c x y → 0 ≤ c y z → 0 ≤ c x z) := by
  refine ⟨by have := hn x x; omega,fun h k => (ht x y z h k).1,fun h k => ?_⟩
  have a := hn x y
  have b := hn y z
  have d := hn x z
  have := (ht z y x (by omega) (by omega)).1
  omega
end Go.Bh
