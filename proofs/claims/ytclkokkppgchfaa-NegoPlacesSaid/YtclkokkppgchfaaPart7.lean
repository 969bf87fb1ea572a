/- A part of the proof: texts of this session, joined. -/
import Derived.Test.YtclkokkppgchfaaPart6
import Derived.Laws.OwnMore
import Derived.Test.YtclkokkppgchfaaPart5
import Derived.Test.YtclkokkppgchfaaPart1
import Derived.Test.YtclkokkppgchfaaShort
set_option linter.unusedSimpArgs false
set_option linter.unusedVariables false
set_option maxHeartbeats 3200000
set_option maxRecDepth 100000
namespace Go.Proofs.Ytclkokkppgchfaa
open Go.RowKit Go.Ng Go.Proofs.YtclkokkppgchfaaW.PrintLast
section
variable {P : Program} {ops : Array Oper} {Q : Exit → Act → World → Prop} {w : World} {tag : Nat → Tag} {E sz : Nat}
theorem append_fits_arm {oi : Oper} {N : Option Tmp} {a : Act} {K : Act → World → Prop} (hw : Region.wanted oi (yielded ops a.tmps) = true) (hN : oi.dst = N) (s x : Operand) (T : TypeId)
    (hop : oi.op = .call { callee := .builtin .append,args := #[s,x],argTypes := #[T,T] }) {g n cap : Nat} (hs : a.eval s = .slice (some ⟨g,0,none⟩) n cap) {ad : Addr} {m c : Nat} (hx : a.eval x = .slice (some ad) m c)
    {olds : List Value} (hown : w.ownsRow 0 E sz (.slice (some ⟨g,0,none⟩) n cap) n olds) {i : TypeInfo} (hT : P.underlying T = some (.slice E)) (hi : P.info? E = some i) (hsize : i.size = sz)
    (news : List Value) (hl : news.length = m * sz) (hnews : ∀ j u,news[j]? = some u → w.cell? (ad.add j) = some u) (h1 : ∀ u ∈ news,u.oneCell' = true) (hroom : n + m ≤ cap)
    (hk : ∀ w',w'.ownsRow 0 E sz (.slice (some ⟨g,0,none⟩) (n + m) cap) (n + m) (olds ++ news) → w.grownBy w' (some g) → K (a.put N (.slice (some ⟨g,0,none⟩) (n + m) cap)) w') :
    if Region.wanted oi (yielded ops a.tmps) = true then Oper.wp P oi a w K Q else K (a.put N undef) w := by
  rw [if_pos hw]
  subst hN
  obtain ⟨w',hr,h2,h3⟩ := run_append_fits (P := P) w 0 T oi.type E i sz hT hi hsize g n cap olds hown ad m c news hl hnews h1 hroom
  unfold Oper.wp execOp
  simp only [hop,resolve,invoke,builtin,Sem.run_bind,Sem.run_pure,Result.andThen_ok,List.map_toArray,List.map_cons,List.map_nil,hs,hx,hr]
  exact hk w' h2 h3
end
theorem posts_take (l : List Post) (i : Nat) : posts (l.take i) = (posts l).take (i * 6) := by
  induction l generalizing i with
  | nil => simp [posts]
  | cons p l ih =>
    cases i with
    | zero => simp [posts]
    | succ i =>
      rw [List.take_succ_cons]
      show p.cells ++ posts (l.take i) = (p.cells ++ posts l).take ((i + 1) * 6)
      rw [ih,List.take_append,show p.cells.length = 6 from rfl,show (i + 1) * 6 - 6 = i * 6 from by omega,List.take_of_length_le (l := p.cells) (by show 6 ≤ _; omega)]
theorem posts_drop (l : List Post) (i : Nat) : posts (l.drop i) = (posts l).drop (i * 6) := by
  induction l generalizing i with
  | nil => simp [posts]
  | cons p l ih =>
    cases i with
    | zero => simp [posts]
    | succ i =>
      rw [List.drop_succ_cons]
      show posts (l.drop i) = (p.cells ++ posts l).drop ((i + 1) * 6)
      rw [ih,List.drop_append,show p.cells.length = 6 from rfl,show (i + 1) * 6 - 6 = i * 6 from by omega,List.drop_of_length_le (l := p.cells) (by show 6 ≤ _; omega),List.nil_append]
theorem posts_one (l : List Post) : ∀ u ∈ posts l,u.oneCell' = true := by
  intro u hu
  simp only [posts,List.mem_flatMap] at hu
  obtain ⟨p,_,hp⟩ := hu
  simp [Post.cells] at hp
  rcases hp with rfl | rfl | rfl | rfl | rfl | rfl <;> rfl
theorem row_after {tag : Nat → Tag} {t : Tag} {w : World} {E sz b cap n : Nat} {cur cur2 : Array Value} {ks : List Value} (hb : w.heap[b]? = some (.cells cur E (0,0))) (hbt : tag b = t) (own : w.ownsRow 0 E sz (.slice (some ⟨b,0,none⟩) n cap) n ks)
    (hcs : cur2.size = cur.size) (hct : cur2.toList.take (n * sz) = cur.toList.take (n * sz)) : Row tag t E sz (w.setRow b cur2) (.slice (some ⟨b,0,none⟩) n cap) n ks := by
  refine .inl ⟨?_,fun b' hb' => by simp [Value.ownBlock] at hb'; subst hb'; exact hbt⟩
  rcases own.2 with ⟨h,_⟩ | ⟨g,cap',cur',hv,h0,hg,h1,h2,h3,h4⟩
  · cases h
  · injection hv with hv _ hc
    injection hv with hv
    injection hv with hv
    subst hv hc
    rw [hb] at hg
    injection hg with hg; injection hg with hg
    subst hg
    exact ⟨own.1,.inr ⟨b,cap,cur2,rfl,h0,setRow_heap w b cur cur2 E _ hb,h1,h2,by rw [hcs]; exact h3,by rw [hct]; exact h4⟩⟩
theorem delete46_ok {tag : Nat → Tag} {t : Tag} {v : Value} (L : List Post) (i : Nat) (w : World) (hr : Row tag t 49 6 w v L.length (posts L)) (hok : TagOk tag w) (hi : i < L.length) (hL : L.length ≤ 1000000) :
    Calls Try.prog 46 #[v,.int .i64 (i : Int),.int .i64 ((i : Int) + 1)] w fun e w' => ∃ v',e = .returned v' ∧ Row tag t 49 6 w' v' (L.length - 1) (posts (L.eraseIdx i)) ∧ Fr (· = t) tag tag w w' := by
  obtain ⟨i0,hinf,hz0,hz1,hz2⟩ := info_parts Try.info49
  obtain ⟨b,cap,cur,rfl,hbt,hb,hcap,hsz,htk⟩ := hr.block (by rw [posts_len]; omega)
  have hcm : cap ≤ maxLen := by
    obtain ⟨A,c,he,_,h⟩ := hr.form
    injection he with _ _ he
    omega
  unfold maxLen at hcm
  have hbl := lt_of_heap hb
  obtain ⟨K,hK⟩ : ∃ K,L.length = K + 1 := ⟨L.length - 1,by omega⟩
  have hiK : i ≤ K := by omega
  have e1 : ((i : Int) == (i : Int) + 1) = false := by rw [beq_eq_false_iff_ne]; omega
  have i0' : (0 : Int) ≤ (i : Int) := by omega
  have i1 : (i : Int) + 1 ≤ ((K + 1 : Nat) : Int) := by omega
  have i2 : ((K + 1 : Nat) : Int) ≤ (cap : Int) := by omega
  have n1 : i ≤ cap := by omega
  have n2 : i + 1 ≤ K + 1 := by omega
  have n4 : ((i : Int) + 1).toNat = i + 1 := by omega
  have n5 : (0 : Int) ≤ (i : Int) + 1 := by omega
  have n6 : K + 1 ≤ cap := by omega
  have n7 : ¬ cap = K := by omega
  have n8 : K ≤ K + 1 := by omega
  have hers : posts (L.eraseIdx i) = posts (L.take i) ++ posts (L.drop (i + 1)) := by
    rw [List.eraseIdx_eq_take_drop_succ,posts,List.flatMap_append]; rfl
  have hown : w.ownsRow 0 49 6 (.slice (some ⟨b,0,none⟩) i cap) i (posts (L.take i)) := by
    refine ⟨by rw [posts_len,List.length_take]; omega,.inr ⟨b,cap,cur,rfl,Nat.zero_le _,hb,n1,by unfold maxLen; omega,hsz,?_⟩⟩
    rw [posts_take,← htk,List.take_take,Nat.min_eq_left (by omega)]
  have hnews : ∀ j u,(posts (L.drop (i + 1)))[j]? = some u → w.cell? ((⟨b,(i + 1) * 6,none⟩ : Addr).add j) = some u := by
    intro j u hu
    rw [posts_drop,List.getElem?_drop,← htk,List.getElem?_take] at hu
    split at hu
    · rw [add_lit,cell_of hb]
      simpa using hu
    · cases hu
  have hdl : (posts (L.drop (i + 1))).length = (K - i) * 6 := by rw [posts_len,List.length_drop,hK]; omega
  have HER := Lib.hid hers
  have HOWN := Lib.hid hown
  have HNEWS := Lib.hid hnews
  have HDL := Lib.hid hdl
  have HB := Lib.hid hb
  have hLK : L.length - 1 = K := by omega
  rw [hLK,hK]
  have hLi : i = K → posts (L.drop (i + 1)) = [] := fun h => by rw [List.drop_eq_nil_of_le (by omega)]; rfl
  have HLI := Lib.hid hLi
  clear hr hb htk hers hown hnews hdl hLi hK hLK
  go_enter Try.func46,Try.ntmps46
  go_wp2_with fail
  by_cases hlast : i = K
  · have hN := HLI.out hlast
    have HN := Lib.hid hN
    have HLA := Lib.hid hlast
    have p1 : (i : Int) ≤ (i : Int) + 1 := by omega
    have p2 : (K : Int) + 1 ≤ (i : Int) + 1 := by omega
    have p3 : i ≤ K + 1 := by omega
    have p4 : K + 1 ≤ i + 1 := by omega
    have p5 : (i : Int) ≤ (K : Int) + 1 := by omega
    have hz : K + 1 - (i + 1) = 0 := by omega
    have hz' : K - i = 0 := by omega
    clear hN hlast
    by_cases hc : cap = i + 1
    · subst hc
      refine start_ (n:=8) (S:=fun w' => True) (ds := [6]) #[f_,f_,f_,f_,f_,f_,f_,f_] (by kernel_rfl) rfl rfl trivial (fun hHeld => ?_)
      refine pv_ (i:=0) (N:=some 20) (v:=?_) (a':=?_) rfl rfl (by kernel_rfl) (fun _ _ _ h => h) (Or.inl ⟨by rfl,?_⟩) ?_ ?_
      rotate_left;intro w';go_simp;with_reducible rfl;rotate_left;simp only [Act.put,sA_,sB_,sC_,i64_w,i32_w];rfl
      refine pv_ (i:=1) (N:=some 21) (v:=?_) (a':=?_) rfl rfl (by kernel_rfl) (fun _ _ _ h => h) (Or.inl ⟨by rfl,?_⟩) ?_ ?_
      rotate_left;intro w';go_simp;with_reducible rfl;rotate_left;simp only [Act.put,sA_,sB_,sC_,i64_w,i32_w];rfl
      refine pv_ (i:=2) (N:=some 22) (v:=?_) (a':=?_) rfl rfl (by kernel_rfl) (fun _ _ _ h => h) (Or.inl ⟨by rfl,?_⟩) ?_ ?_
      rotate_left;intro w';go_simp;with_reducible rfl;rotate_left;simp only [Act.put,sA_,sB_,sC_,i64_w,i32_w];rfl
      refine pv_ (i:=3) (N:=some 23) (v:=?_) (a':=?_) rfl rfl (by kernel_rfl) (fun _ _ _ h => h) (Or.inl ⟨by rfl,?_⟩) ?_ ?_
      rotate_left;intro w';go_simp;with_reducible rfl;rotate_left;simp only [Act.put,sA_,sB_,sC_,i64_w,i32_w];rfl
      refine pv_ (i:=4) (N:=some 24) (v:=?_) (a':=?_) rfl rfl (by kernel_rfl) (fun _ _ _ h => h) (Or.inl ⟨by rfl,?_⟩) ?_ ?_
      rotate_left;intro w';go_simp;with_reducible rfl;rotate_left;simp only [Act.put,sA_,sB_,sC_,i64_w,i32_w];rfl
      refine pv_ (i:=5) (N:=some 25) (v:=?_) (a':=?_) rfl rfl (by kernel_rfl) (fun _ _ _ h => h) (Or.inl ⟨by rfl,?_⟩) ?_ ?_
      rotate_left;intro w';go_simp;with_reducible rfl;rotate_left;simp only [Act.put,sA_,sB_,sC_,i64_w,i32_w];rfl
      refine last_ (i:=6) (N:=some 26) #[t_,t_,t_,t_,t_,t_,t_,f_] rfl rfl (by kernel_rfl) (by decide) (fun K hK => ?_)
      refine append0_arm (by rfl) rfl (.tmp 22) (.tmp 25) 24 rfl (by rfl) (by rfl) Try.underlying24 hinf (by omega) ?_
      refine hK.out _ _ ?_
      clear hK K
      refine norm_ (a':=?_) ?_ ?_
      rotate_left
      · show Act.put _ (some 26) _ = _
        simp only [Act.put,sA_,sB_,sC_,i64_w,i32_w]
        rfl
      refine pv_ (i:=7) (N:=some 0) (v:=?_) (a':=?_) rfl rfl (by kernel_rfl) (fun _ _ _ h => h) (Or.inl ⟨by rfl,?_⟩) ?_ ?_
      rotate_left;intro w';go_simp;with_reducible rfl;rotate_left;simp only [Act.put,sA_,sB_,sC_,i64_w,i32_w];rfl
      refine done_ (by kernel_rfl) ?_
      go_wp2_with (refine clear_list rfl (.tmp 31) 24 rfl (by rfl) Try.underlying24 hinf hz0 (by decide) (by decide) (show (w.drew).heap[b]? = _ from HB.out) (show i * 6 + (K + 1 - i) * 6 ≤ cur.size by omega) (by omega) ?_; intro cur2 hcs hct)
      go_ret
      refine ⟨_,rfl,?_,(Fr.drew hok).trans (Fr.setRow (S:=(· = t)) hok.drew (b := b) hbt cur2)⟩
      rw [HER.out,HN.out,List.append_nil,← HLA.out]
      exact row_after (w := w.drew) HB.out hbt HOWN.out hcs hct
    · have p6 : (i : Int) ≤ (cap : Int) := by omega
      have p7 : ¬ cap = i := by omega
      refine start_ (n:=8) (S:=fun w' => True) (ds := [6]) #[f_,f_,f_,f_,f_,f_,f_,f_] (by kernel_rfl) rfl rfl trivial (fun hHeld => ?_)
      refine pv_ (i:=0) (N:=some 20) (v:=?_) (a':=?_) rfl rfl (by kernel_rfl) (fun _ _ _ h => h) (Or.inl ⟨by rfl,?_⟩) ?_ ?_
      rotate_left;intro w';go_simp;with_reducible rfl;rotate_left;simp only [Act.put,sA_,sB_,sC_,i64_w,i32_w];rfl
      refine pv_ (i:=1) (N:=some 21) (v:=?_) (a':=?_) rfl rfl (by kernel_rfl) (fun _ _ _ h => h) (Or.inl ⟨by rfl,?_⟩) ?_ ?_
      rotate_left;intro w';go_simp;with_reducible rfl;rotate_left;simp only [Act.put,sA_,sB_,sC_,i64_w,i32_w];rfl
      refine pv_ (i:=2) (N:=some 22) (v:=?_) (a':=?_) rfl rfl (by kernel_rfl) (fun _ _ _ h => h) (Or.inl ⟨by rfl,?_⟩) ?_ ?_
      rotate_left;intro w';go_simp;with_reducible rfl;rotate_left;simp only [Act.put,sA_,sB_,sC_,i64_w,i32_w];rfl
      refine pv_ (i:=3) (N:=some 23) (v:=?_) (a':=?_) rfl rfl (by kernel_rfl) (fun _ _ _ h => h) (Or.inl ⟨by rfl,?_⟩) ?_ ?_
      rotate_left;intro w';go_simp;with_reducible rfl;rotate_left;simp only [Act.put,sA_,sB_,sC_,i64_w,i32_w];rfl
      refine pv_ (i:=4) (N:=some 24) (v:=?_) (a':=?_) rfl rfl (by kernel_rfl) (fun _ _ _ h => h) (Or.inl ⟨by rfl,?_⟩) ?_ ?_
      rotate_left;intro w';go_simp;with_reducible rfl;rotate_left;simp only [Act.put,sA_,sB_,sC_,i64_w,i32_w];rfl
      refine pv_ (i:=5) (N:=some 25) (v:=?_) (a':=?_) rfl rfl (by kernel_rfl) (fun _ _ _ h => h) (Or.inl ⟨by rfl,?_⟩) ?_ ?_
      rotate_left;intro w';go_simp;with_reducible rfl;rotate_left;simp only [Act.put,sA_,sB_,sC_,i64_w,i32_w];rfl
      refine last_ (i:=6) (N:=some 26) #[t_,t_,t_,t_,t_,t_,t_,f_] rfl rfl (by kernel_rfl) (by decide) (fun K hK => ?_)
      refine append0_arm (by rfl) rfl (.tmp 22) (.tmp 25) 24 rfl (by rfl) (by rfl) Try.underlying24 hinf (by omega) ?_
      refine hK.out _ _ ?_
      clear hK K
      refine norm_ (a':=?_) ?_ ?_
      rotate_left
      · show Act.put _ (some 26) _ = _
        simp only [Act.put,sA_,sB_,sC_,i64_w,i32_w]
        rfl
      refine pv_ (i:=7) (N:=some 0) (v:=?_) (a':=?_) rfl rfl (by kernel_rfl) (fun _ _ _ h => h) (Or.inl ⟨by rfl,?_⟩) ?_ ?_
      rotate_left;intro w';go_simp;with_reducible rfl;rotate_left;simp only [Act.put,sA_,sB_,sC_,i64_w,i32_w];rfl
      refine done_ (by kernel_rfl) ?_
      go_wp2_with (refine clear_list rfl (.tmp 31) 24 rfl (by rfl) Try.underlying24 hinf hz0 (by decide) (by decide) (show (w.drew).heap[b]? = _ from HB.out) (show i * 6 + (K + 1 - i) * 6 ≤ cur.size by omega) (by omega) ?_; intro cur2 hcs hct)
      go_ret
      refine ⟨_,rfl,?_,(Fr.drew hok).trans (Fr.setRow (S:=(· = t)) hok.drew (b := b) hbt cur2)⟩
      rw [HER.out,HN.out,List.append_nil,← HLA.out]
      exact row_after (w := w.drew) HB.out hbt HOWN.out hcs hct
  · have n3 : ¬ cap = i + 1 := by omega
    have hn' : i + (K - i) = K := by omega
    have q1 : (K : Int) ≤ (K : Int) + 1 := by omega
    have q2 : (K : Int) ≤ (cap : Int) := by omega
    have q3 : 0 < K - i := by omega
    refine start_ (n:=8) (S:=fun w' => True) (ds := [6]) #[f_,f_,f_,f_,f_,f_,f_,f_] (by kernel_rfl) rfl rfl trivial (fun hHeld => ?_)
    refine pv_ (i:=0) (N:=some 20) (v:=?_) (a':=?_) rfl rfl (by kernel_rfl) (fun _ _ _ h => h) (Or.inl ⟨by rfl,?_⟩) ?_ ?_
    rotate_left;intro w';go_simp;with_reducible rfl;rotate_left;simp only [Act.put,sA_,sB_,sC_,i64_w,i32_w];rfl
    refine pv_ (i:=1) (N:=some 21) (v:=?_) (a':=?_) rfl rfl (by kernel_rfl) (fun _ _ _ h => h) (Or.inl ⟨by rfl,?_⟩) ?_ ?_
    rotate_left;intro w';go_simp;with_reducible rfl;rotate_left;simp only [Act.put,sA_,sB_,sC_,i64_w,i32_w];rfl
    refine pv_ (i:=2) (N:=some 22) (v:=?_) (a':=?_) rfl rfl (by kernel_rfl) (fun _ _ _ h => h) (Or.inl ⟨by rfl,?_⟩) ?_ ?_
    rotate_left;intro w';go_simp;with_reducible rfl;rotate_left;simp only [Act.put,sA_,sB_,sC_,i64_w,i32_w];rfl
    refine pv_ (i:=3) (N:=some 23) (v:=?_) (a':=?_) rfl rfl (by kernel_rfl) (fun _ _ _ h => h) (Or.inl ⟨by rfl,?_⟩) ?_ ?_
    rotate_left;intro w';go_simp;with_reducible rfl;rotate_left;simp only [Act.put,sA_,sB_,sC_,i64_w,i32_w];rfl
    refine pv_ (i:=4) (N:=some 24) (v:=?_) (a':=?_) rfl rfl (by kernel_rfl) (fun _ _ _ h => h) (Or.inl ⟨by rfl,?_⟩) ?_ ?_
    rotate_left;intro w';go_simp;with_reducible rfl;rotate_left;simp only [Act.put,sA_,sB_,sC_,i64_w,i32_w];rfl
    refine pv_ (i:=5) (N:=some 25) (v:=?_) (a':=?_) rfl rfl (by kernel_rfl) (fun _ _ _ h => h) (Or.inl ⟨by rfl,?_⟩) ?_ ?_
    rotate_left;intro w';go_simp;with_reducible rfl;rotate_left;simp only [Act.put,sA_,sB_,sC_,i64_w,i32_w];rfl
    refine last_ (i:=6) (N:=some 26) #[t_,t_,t_,t_,t_,t_,t_,f_] rfl rfl (by kernel_rfl) (by decide) (fun K hK => ?_)
    refine append_fits_arm (by rfl) rfl (.tmp 22) (.tmp 25) 24 rfl (by rfl) (by rfl) (show w.drew.ownsRow 0 49 6 _ _ _ from HOWN.out) Try.underlying24 hinf hz1 (posts (L.drop (i + 1))) HDL.out HNEWS.out (posts_one _) (by omega) ?_
    intro w2 hown2 hg2
    rw [hn'] at hown2 ⊢
    refine hK.out _ _ ?_
    clear hK K
    refine norm_ (a':=?_) ?_ ?_
    rotate_left
    · show Act.put _ (some 26) _ = _
      simp only [Act.put,sA_,sB_,sC_,i64_w,i32_w]
      rfl
    refine pv_ (i:=7) (N:=some 0) (v:=?_) (a':=?_) rfl rfl (by kernel_rfl) (fun _ _ _ h => h) (Or.inl ⟨by rfl,?_⟩) ?_ ?_
    rotate_left;intro w';go_simp;with_reducible rfl;rotate_left;simp only [Act.put,sA_,sB_,sC_,i64_w,i32_w];rfl
    refine done_ (by kernel_rfl) ?_
    rw [← HER.out] at hown2
    have hF2 : Fr (· = t) tag tag w w2 := (Fr.drew hok).trans ⟨hg2.os,hg2.tape,hg2.output,hg2.size,fun _ _ => rfl,fun b' hb' hs => hg2.block b' hb' (fun e => hs (by injection e with e; rw [e]; exact hbt)),fun b' hb' => Nat.lt_of_lt_of_le (hok b' hb') hg2.size⟩
    obtain ⟨cur1,hb1,hs1⟩ : ∃ cur1,w2.heap[b]? = some (.cells cur1 49 (0,0)) ∧ cur1.size = cap * 6 := by
      rcases hown2.2 with ⟨h,_⟩ | ⟨g,cap',cur',hv,h0,hg,h1,h2,h3,h4⟩
      · cases h
      · injection hv with hv _ hc
        injection hv with hv
        injection hv with hv
        subst hv hc
        exact ⟨cur',hg,h3⟩
    have HF2 := Lib.hid hF2
    have HO2 := Lib.hid hown2
    have HB1 := Lib.hid hb1
    clear hF2 hown2 hb1 hg2 hHeld
    go_wp2_with (refine clear_list rfl (.tmp 31) 24 rfl (by rfl) Try.underlying24 hinf hz0 (by decide) (by decide) HB1.out (show K * 6 + 1 * 6 ≤ cur1.size by omega) (by omega) ?_; intro cur2 hcs hct)
    go_ret
    exact ⟨_,rfl,row_after HB1.out hbt HO2.out hcs hct,HF2.out.trans (Fr.setRow (S:=(· = t)) HF2.out.dom (b := b) hbt cur2)⟩
def Few (tag : Nat → Tag) (w : World) (e : Ending) (w' : World) : Prop := (∃ n : Int,e = .returned (.int .i64 n) ∧ 0 ≤ n ∧ n ≤ 200) ∧ Fr (fun _ => False) tag tag w w'
theorem sends1_ok {tag : Nat → Tag} {k j : Nat} {P : PlaceM} {it : ItemM} {w : World} (m : Post) (hP : PRep tag k w P) (hok : TagOk tag w) (hmk : m.kind = 1) (hj : P.items[j]? = some (some it)) (hmj : m.item = j) (hq : it.queue.length ≤ 200) :
    Calls Try.prog 105 #[.pointer (some ⟨P.ptr,0,none⟩),Post.val m] w (Few tag w) := by
  obtain ⟨mk,ms,md,mp,mi,mv⟩ := m
  simp only at hmj hmk
  subst hmj
  subst hmk
  obtain ⟨sv,iv,ov,cv,hc,h2,h3,h4,h5⟩ := hP.cells
  obtain ⟨b,cap,rfl,hl1,hl2,hcell⟩ := PRep.item_cell h3 hj
  unfold maxLen at hl2
  have hjl := (List.getElem?_eq_some_iff.1 hj).1
  have c2 : w.cell? ⟨P.ptr,2,none⟩ = some (.slice (some ⟨b,0,none⟩) P.items.length cap) := cell_of hc 2
  have hpl := lt_of_heap hc
  have hbl := World.block_lt_of_cell? w _ hcell
  have i1 : (0 : Int) ≤ (j : Int) := by omega
  have i2 : (j : Int) < (P.items.length : Int) := by omega
  have HP := Lib.hid hP
  have HJ := Lib.hid hj
  clear hP hc h2 h3 h4 h5 hj
  unfold Post.val
  go_enter Try.func105,Try.ntmps105
  go_wp2_with fail
  go_quiet (fail)
  obtain ⟨w1,hw1⟩ : ∃ w1,w1 = (w.alloc (.cells #[.int .i64 1,.int .i64 ms,.int .i64 md,.int .i64 mp,.int .i64 (j : Int),.int .i64 mv] 49)).drewN nq := ⟨_,rfl⟩
  rw [← hw1]
  have hF1 : Fr (fun _ => False) tag tag w w1 := by rw [hw1]; exact ((Fr.refl hok).al _).dN _
  have e3 : ∀ p : FrW tag w1,p.v.cell? ⟨w.heap.size,3,none⟩ = some (.int .i64 mp) := fun p => p.cell hF1.dom (by rw [hw1]; go_simp)
  have e5 : ∀ p : FrW tag w1,p.v.cell? ⟨w.heap.size,5,none⟩ = some (.int .i64 mv) := fun p => p.cell hF1.dom (by rw [hw1]; go_simp)
  clear hw1 c2 hcell
  have HP1 := Lib.hid (HP.out.fr hF1 (fun _ _ x => x))
  obtain ⟨qv,hic,hqr⟩ := (HP1.out.items j it HJ.out).cells
  have q0 : ∀ p : FrW tag w1,p.v.cell? ⟨it.ptr,0,none⟩ = some (.bool it.held) := fun p => p.cell hF1.dom (cell_of hic 0)
  have q1 : ∀ p : FrW tag w1,p.v.cell? ⟨it.ptr,1,none⟩ = some (.int .i64 it.lk.prop) := fun p => p.cell hF1.dom (cell_of hic 1)
  have q3 : ∀ p : FrW tag w1,p.v.cell? ⟨it.ptr,3,none⟩ = some qv := fun p => p.cell hF1.dom (cell_of hic 3)
  have q4 : ∀ p : FrW tag w1,p.v.cell? ⟨it.ptr,4,none⟩ = some (.int .i64 it.version) := fun p => p.cell hF1.dom (cell_of hic 4)
  have q5 : ∀ p : FrW tag w1,p.v.cell? ⟨it.ptr,5,none⟩ = some (.map (some it.tm)) := fun p => p.cell hF1.dom (cell_of hic 5)
  obtain ⟨A,qcap,rfl,hl3,hl4⟩ := hqr.form
  unfold maxLen at hl4
  have HQ : Hid (∀ p : FrW tag w1,Row tag (k,8,(j : Int)) 116 2 p.v (.slice A it.queue.length qcap) it.queue.length (askers it.queue)) := Lib.hid (fun p => hqr.fr (p.fr hF1.dom) (fun x => x))
  have hlk : ∀ p : FrW tag w1,(Instr.lookup 66 (.map (some it.tm)) (.int .i64 mp) false).run Try.prog p.v = .ok (.bool (decide (mp ∈ it.through))) p.v :=
    fun p => look_thr ((HP1.out.items j it HJ.out).map.fr (p.fr hF1.dom) (fun x => x)) mp
  have HF1 := Lib.hid hF1
  clear hF1 hic hqr
  go_wp2_with fail
  have HB0 : Hid ((it.held && it.lk.prop == mp) = (it.held && it.lk.prop == mp)) := Lib.hid rfl
  have HW0 : Hid (it.queue.any (isProp mp) = it.queue.any (isProp mp)) := Lib.hid rfl
  cases hthr : decide (mp ∈ it.through)
  · rw [hthr] at hlk
    cases hb : (it.held && it.lk.prop == mp)
    · cases hwt : it.queue.any (isProp mp)
      · cases hh : it.held
        · have HB : Hid ((false && it.lk.prop == mp) = false) := Lib.hid rfl
          have HW := Lib.hid hwt
          rw [hh] at q0
          clear hb hwt hthr HB0 HW0
          refine wp_region_fr (tag := tag) (by kernel_rfl) (by kernel_rfl) ?_
          repeat (go_big_quiet_step (first | (go_at_call 124; exact Calls.fr_same (is_val it.ptr false it.lk.prop mp _ _ HB.out (q0 _) (q1 _))) | (go_at_call 125; refine Calls.fr_of (waits_val _ it.ptr mp _ _ HW.out (q3 _) (HQ.out _) (FrW.fr _ HF1.out.dom).dom))))
          refine wpQuiet_nil ?_
          intro wq hw'
          have hwq := FrW.of (HF1.out.dom) hw'
          clear hw'
          go_wp2_with fail
          go_ret
          exact ⟨⟨_,rfl,by omega,by omega⟩,HF1.out.trans hwq⟩
        · cases hv : (mv == it.version)
          · have HB := Lib.hid hb
            have HW := Lib.hid hwt
            rw [hh] at q0 HB
            clear hb hwt hthr HB0 HW0
            refine wp_region_fr (tag := tag) (by kernel_rfl) (by kernel_rfl) ?_
            repeat (go_big_quiet_step (first | (go_at_call 124; exact Calls.fr_same (is_val it.ptr true it.lk.prop mp _ _ HB.out (q0 _) (q1 _))) | (go_at_call 125; refine Calls.fr_of (waits_val _ it.ptr mp _ _ HW.out (q3 _) (HQ.out _) (FrW.fr _ HF1.out.dom).dom))))
            refine wpQuiet_nil ?_
            intro wq hw'
            have hwq := FrW.of (HF1.out.dom) hw'
            clear hw'
            go_wp2_with fail
            go_ret
            exact ⟨⟨_,rfl,by omega,by omega⟩,HF1.out.trans hwq⟩
          · have HB := Lib.hid hb
            have HW := Lib.hid hwt
            rw [hh] at q0 HB
            clear hb hwt hthr HB0 HW0
            refine wp_region_fr (tag := tag) (by kernel_rfl) (by kernel_rfl) ?_
            repeat (go_big_quiet_step (first | (go_at_call 124; exact Calls.fr_same (is_val it.ptr true it.lk.prop mp _ _ HB.out (q0 _) (q1 _))) | (go_at_call 125; refine Calls.fr_of (waits_val _ it.ptr mp _ _ HW.out (q3 _) (HQ.out _) (FrW.fr _ HF1.out.dom).dom))))
            refine wpQuiet_nil ?_
            intro wq hw'
            have hwq := FrW.of (HF1.out.dom) hw'
            clear hw'
            go_wp2_with fail
            go_ret
            exact ⟨⟨_,rfl,by omega,by omega⟩,HF1.out.trans hwq⟩
      · have HB := Lib.hid hb
        have HW := Lib.hid hwt
        clear hb hwt hthr HB0 HW0
        refine wp_region_fr (tag := tag) (by kernel_rfl) (by kernel_rfl) ?_
        repeat (go_big_quiet_step (first | (go_at_call 124; exact Calls.fr_same (is_val it.ptr it.held it.lk.prop mp _ _ HB.out (q0 _) (q1 _))) | (go_at_call 125; refine Calls.fr_of (waits_val _ it.ptr mp _ _ HW.out (q3 _) (HQ.out _) (FrW.fr _ HF1.out.dom).dom))))
        refine wpQuiet_nil ?_
        intro wq hw'
        have hwq := FrW.of (HF1.out.dom) hw'
        clear hw'
        go_wp2_with fail
        go_ret
        exact ⟨⟨_,rfl,by omega,by omega⟩,HF1.out.trans hwq⟩
    · have HB := Lib.hid hb
      have HW := HW0
      clear hb hthr HB0 HW0
      refine wp_region_fr (tag := tag) (by kernel_rfl) (by kernel_rfl) ?_
      repeat (go_big_quiet_step (first | (go_at_call 124; exact Calls.fr_same (is_val it.ptr it.held it.lk.prop mp _ _ HB.out (q0 _) (q1 _))) | (go_at_call 125; refine Calls.fr_of (waits_val _ it.ptr mp _ _ HW.out (q3 _) (HQ.out _) (FrW.fr _ HF1.out.dom).dom))))
      refine wpQuiet_nil ?_
      intro wq hw'
      have hwq := FrW.of (HF1.out.dom) hw'
      clear hw'
      go_wp2_with fail
      go_ret
      exact ⟨⟨_,rfl,by omega,by omega⟩,HF1.out.trans hwq⟩
  · rw [hthr] at hlk
    have HB := HB0
    have HW := HW0
    clear hthr HB0 HW0
    refine wp_region_fr (tag := tag) (by kernel_rfl) (by kernel_rfl) ?_
    repeat (go_big_quiet_step (first | (go_at_call 124; exact Calls.fr_same (is_val it.ptr it.held it.lk.prop mp _ _ HB.out (q0 _) (q1 _))) | (go_at_call 125; refine Calls.fr_of (waits_val _ it.ptr mp _ _ HW.out (q3 _) (HQ.out _) (FrW.fr _ HF1.out.dom).dom))))
    refine wpQuiet_nil ?_
    intro wq hw'
    have hwq := FrW.of (HF1.out.dom) hw'
    clear hw'
    go_wp2_with fail
    go_ret
    exact ⟨⟨_,rfl,by omega,by omega⟩,HF1.out.trans hwq⟩
theorem sends4_ok {tag : Nat → Tag} {k j : Nat} {P : PlaceM} {it : ItemM} {w : World} (m : Post) (hP : PRep tag k w P) (hok : TagOk tag w) (hmk : m.kind = 4) (hj : P.items[j]? = some (some it)) (hmj : m.item = j) (hq : it.queue.length ≤ 200) :
    Calls Try.prog 105 #[.pointer (some ⟨P.ptr,0,none⟩),Post.val m] w (Few tag w) := by
  obtain ⟨mk,ms,md,mp,mi,mv⟩ := m
  simp only at hmj hmk
  subst hmj
  subst hmk
  obtain ⟨sv,iv,ov,cv,hc,h2,h3,h4,h5⟩ := hP.cells
  obtain ⟨b,cap,rfl,hl1,hl2,hcell⟩ := PRep.item_cell h3 hj
  unfold maxLen at hl2
  have hjl := (List.getElem?_eq_some_iff.1 hj).1
  have c2 : w.cell? ⟨P.ptr,2,none⟩ = some (.slice (some ⟨b,0,none⟩) P.items.length cap) := cell_of hc 2
  have hpl := lt_of_heap hc
  have hbl := World.block_lt_of_cell? w _ hcell
  have i1 : (0 : Int) ≤ (j : Int) := by omega
  have i2 : (j : Int) < (P.items.length : Int) := by omega
  have HP := Lib.hid hP
  have HJ := Lib.hid hj
  clear hP hc h2 h3 h4 h5 hj
  unfold Post.val
  go_enter Try.func105,Try.ntmps105
  go_wp2_with fail
  go_quiet (fail)
  obtain ⟨w1,hw1⟩ : ∃ w1,w1 = (w.alloc (.cells #[.int .i64 4,.int .i64 ms,.int .i64 md,.int .i64 mp,.int .i64 (j : Int),.int .i64 mv] 49)).drewN nq := ⟨_,rfl⟩
  rw [← hw1]
  have hF1 : Fr (fun _ => False) tag tag w w1 := by rw [hw1]; exact ((Fr.refl hok).al _).dN _
  have e3 : ∀ p : FrW tag w1,p.v.cell? ⟨w.heap.size,3,none⟩ = some (.int .i64 mp) := fun p => p.cell hF1.dom (by rw [hw1]; go_simp)
  have e5 : ∀ p : FrW tag w1,p.v.cell? ⟨w.heap.size,5,none⟩ = some (.int .i64 mv) := fun p => p.cell hF1.dom (by rw [hw1]; go_simp)
  clear hw1 c2 hcell
  have HP1 := Lib.hid (HP.out.fr hF1 (fun _ _ x => x))
  obtain ⟨qv,hic,hqr⟩ := (HP1.out.items j it HJ.out).cells
  have q0 : ∀ p : FrW tag w1,p.v.cell? ⟨it.ptr,0,none⟩ = some (.bool it.held) := fun p => p.cell hF1.dom (cell_of hic 0)
  have q1 : ∀ p : FrW tag w1,p.v.cell? ⟨it.ptr,1,none⟩ = some (.int .i64 it.lk.prop) := fun p => p.cell hF1.dom (cell_of hic 1)
  have q3 : ∀ p : FrW tag w1,p.v.cell? ⟨it.ptr,3,none⟩ = some qv := fun p => p.cell hF1.dom (cell_of hic 3)
  have q4 : ∀ p : FrW tag w1,p.v.cell? ⟨it.ptr,4,none⟩ = some (.int .i64 it.version) := fun p => p.cell hF1.dom (cell_of hic 4)
  have q5 : ∀ p : FrW tag w1,p.v.cell? ⟨it.ptr,5,none⟩ = some (.map (some it.tm)) := fun p => p.cell hF1.dom (cell_of hic 5)
  obtain ⟨A,qcap,rfl,hl3,hl4⟩ := hqr.form
  unfold maxLen at hl4
  have HQ : Hid (∀ p : FrW tag w1,Row tag (k,8,(j : Int)) 116 2 p.v (.slice A it.queue.length qcap) it.queue.length (askers it.queue)) := Lib.hid (fun p => hqr.fr (p.fr hF1.dom) (fun x => x))
  have hlk : ∀ p : FrW tag w1,(Instr.lookup 66 (.map (some it.tm)) (.int .i64 mp) false).run Try.prog p.v = .ok (.bool (decide (mp ∈ it.through))) p.v :=
    fun p => look_thr ((HP1.out.items j it HJ.out).map.fr (p.fr hF1.dom) (fun x => x)) mp
  have HF1 := Lib.hid hF1
  clear hF1 hic hqr
  go_wp2_with fail
  have hn0 : (0 : Int) ≤ (it.queue.length : Int) := by omega
  have hn1 : (it.queue.length : Int) ≤ 200 := by omega
  cases hb : (it.held && it.lk.prop == mp)
  · have HB := Lib.hid hb
    clear hb
    refine wp_region_fr (tag := tag) (by kernel_rfl) (by kernel_rfl) ?_
    repeat (go_big_quiet_step ((go_at_call 124; exact Calls.fr_same (is_val it.ptr it.held it.lk.prop mp _ _ HB.out (q0 _) (q1 _)))))
    refine wpQuiet_nil ?_
    intro wq hw'
    have hwq := FrW.of (HF1.out.dom) hw'
    clear hw'
    go_wp2_with fail
    go_ret
    exact ⟨⟨_,rfl,by omega,by omega⟩,HF1.out.trans hwq⟩
  · have HB := Lib.hid hb
    clear hb
    refine wp_region_fr (tag := tag) (by kernel_rfl) (by kernel_rfl) ?_
    repeat (go_big_quiet_step ((go_at_call 124; exact Calls.fr_same (is_val it.ptr it.held it.lk.prop mp _ _ HB.out (q0 _) (q1 _)))))
    refine wpQuiet_nil ?_
    intro wq hw'
    have hwq := FrW.of (HF1.out.dom) hw'
    clear hw'
    have r3 : wq.cell? ⟨it.ptr,3,none⟩ = _ := q3 ⟨wq,fun _ => hwq⟩
    go_wp2_with fail
    go_ret
    exact ⟨⟨_,rfl,by omega,by omega⟩,HF1.out.trans hwq⟩
theorem sends5_ok {tag : Nat → Tag} {k j : Nat} {P : PlaceM} {it : ItemM} {w : World} (m : Post) (hP : PRep tag k w P) (hok : TagOk tag w) (hmk : m.kind = 5) (hj : P.items[j]? = some (some it)) (hmj : m.item = j) (hq : it.queue.length ≤ 200) :
    Calls Try.prog 105 #[.pointer (some ⟨P.ptr,0,none⟩),Post.val m] w (Few tag w) := by
  obtain ⟨mk,ms,md,mp,mi,mv⟩ := m
  simp only at hmj hmk
  subst hmj
  subst hmk
  obtain ⟨sv,iv,ov,cv,hc,h2,h3,h4,h5⟩ := hP.cells
  obtain ⟨b,cap,rfl,hl1,hl2,hcell⟩ := PRep.item_cell h3 hj
  unfold maxLen at hl2
  have hjl := (List.getElem?_eq_some_iff.1 hj).1
  have c2 : w.cell? ⟨P.ptr,2,none⟩ = some (.slice (some ⟨b,0,none⟩) P.items.length cap) := cell_of hc 2
  have hpl := lt_of_heap hc
  have hbl := World.block_lt_of_cell? w _ hcell
  have i1 : (0 : Int) ≤ (j : Int) := by omega
  have i2 : (j : Int) < (P.items.length : Int) := by omega
  have HP := Lib.hid hP
  have HJ := Lib.hid hj
  clear hP hc h2 h3 h4 h5 hj
  unfold Post.val
  go_enter Try.func105,Try.ntmps105
  go_wp2_with fail
  go_quiet (fail)
  obtain ⟨w1,hw1⟩ : ∃ w1,w1 = (w.alloc (.cells #[.int .i64 5,.int .i64 ms,.int .i64 md,.int .i64 mp,.int .i64 (j : Int),.int .i64 mv] 49)).drewN nq := ⟨_,rfl⟩
  rw [← hw1]
  have hF1 : Fr (fun _ => False) tag tag w w1 := by rw [hw1]; exact ((Fr.refl hok).al _).dN _
  have e3 : ∀ p : FrW tag w1,p.v.cell? ⟨w.heap.size,3,none⟩ = some (.int .i64 mp) := fun p => p.cell hF1.dom (by rw [hw1]; go_simp)
  have e5 : ∀ p : FrW tag w1,p.v.cell? ⟨w.heap.size,5,none⟩ = some (.int .i64 mv) := fun p => p.cell hF1.dom (by rw [hw1]; go_simp)
  clear hw1 c2 hcell
  have HP1 := Lib.hid (HP.out.fr hF1 (fun _ _ x => x))
  obtain ⟨qv,hic,hqr⟩ := (HP1.out.items j it HJ.out).cells
  have q0 : ∀ p : FrW tag w1,p.v.cell? ⟨it.ptr,0,none⟩ = some (.bool it.held) := fun p => p.cell hF1.dom (cell_of hic 0)
  have q1 : ∀ p : FrW tag w1,p.v.cell? ⟨it.ptr,1,none⟩ = some (.int .i64 it.lk.prop) := fun p => p.cell hF1.dom (cell_of hic 1)
  have q3 : ∀ p : FrW tag w1,p.v.cell? ⟨it.ptr,3,none⟩ = some qv := fun p => p.cell hF1.dom (cell_of hic 3)
  have q4 : ∀ p : FrW tag w1,p.v.cell? ⟨it.ptr,4,none⟩ = some (.int .i64 it.version) := fun p => p.cell hF1.dom (cell_of hic 4)
  have q5 : ∀ p : FrW tag w1,p.v.cell? ⟨it.ptr,5,none⟩ = some (.map (some it.tm)) := fun p => p.cell hF1.dom (cell_of hic 5)
  obtain ⟨A,qcap,rfl,hl3,hl4⟩ := hqr.form
  unfold maxLen at hl4
  have HQ : Hid (∀ p : FrW tag w1,Row tag (k,8,(j : Int)) 116 2 p.v (.slice A it.queue.length qcap) it.queue.length (askers it.queue)) := Lib.hid (fun p => hqr.fr (p.fr hF1.dom) (fun x => x))
  have hlk : ∀ p : FrW tag w1,(Instr.lookup 66 (.map (some it.tm)) (.int .i64 mp) false).run Try.prog p.v = .ok (.bool (decide (mp ∈ it.through))) p.v :=
    fun p => look_thr ((HP1.out.items j it HJ.out).map.fr (p.fr hF1.dom) (fun x => x)) mp
  have HF1 := Lib.hid hF1
  clear hF1 hic hqr
  go_wp2_with fail
  have hn0 : (0 : Int) ≤ (it.queue.length : Int) := by omega
  have hn1 : (it.queue.length : Int) ≤ 200 := by omega
  cases hb : (it.held && it.lk.prop == mp)
  · have HB := Lib.hid hb
    clear hb
    refine wp_region_fr (tag := tag) (by kernel_rfl) (by kernel_rfl) ?_
    repeat (go_big_quiet_step ((go_at_call 124; exact Calls.fr_same (is_val it.ptr it.held it.lk.prop mp _ _ HB.out (q0 _) (q1 _)))))
    refine wpQuiet_nil ?_
    intro wq hw'
    have hwq := FrW.of (HF1.out.dom) hw'
    clear hw'
    go_wp2_with fail
    go_ret
    exact ⟨⟨_,rfl,by omega,by omega⟩,HF1.out.trans hwq⟩
  · have HB := Lib.hid hb
    clear hb
    by_cases h0 : it.queue.length = 0
    · rw [h0] at q3
      refine wp_region_fr (tag := tag) (by kernel_rfl) (by kernel_rfl) ?_
      repeat (go_big_quiet_step ((go_at_call 124; exact Calls.fr_same (is_val it.ptr it.held it.lk.prop mp _ _ HB.out (q0 _) (q1 _)))))
      refine wpQuiet_nil ?_
      intro wq hw'
      have hwq := FrW.of (HF1.out.dom) hw'
      clear hw'
      go_wp2_with fail
      go_ret
      exact ⟨⟨_,rfl,by omega,by omega⟩,HF1.out.trans hwq⟩
    · have h0' : (0 : Int) < (it.queue.length : Int) := by omega
      refine wp_region_fr (tag := tag) (by kernel_rfl) (by kernel_rfl) ?_
      repeat (go_big_quiet_step ((go_at_call 124; exact Calls.fr_same (is_val it.ptr it.held it.lk.prop mp _ _ HB.out (q0 _) (q1 _)))))
      refine wpQuiet_nil ?_
      intro wq hw'
      have hwq := FrW.of (HF1.out.dom) hw'
      clear hw'
      go_wp2_with fail
      go_ret
      exact ⟨⟨_,rfl,by omega,by omega⟩,HF1.out.trans hwq⟩
theorem sends2_ok {tag : Nat → Tag} {k : Nat} {P : PlaceM} {w : World} (m : Post) (hP : PRep tag k w P) (hok : TagOk tag w) (hmk : m.kind = 2) (hW : WF P) :
    Calls Try.prog 105 #[.pointer (some ⟨P.ptr,0,none⟩),Post.val m] w (Few tag w) := by
  obtain ⟨mk,ms,md,mp,mi,mv⟩ := m
  simp only at hmk
  subst hmk
  have HP := Lib.hid hP
  have HW := Lib.hid hW
  clear hP hW
  unfold Post.val
  cases ho : openM P ⟨2,ms,md,mp,mi,mv⟩ with
  | none =>
    have HO := Lib.hid ho
    clear ho
    go_enter Try.func105,Try.ntmps105
    go_wp2_with (go_at_call 126; refine (open_ok ⟨2,ms,md,mp,mi,mv⟩ (HP.out.alloc hok _) (hok.alloc _) HW.out.opens).mono ?_; rw [HO.out,propPtr]; rintro e w1 ⟨rfl,hF1⟩)
    go_ret
    exact ⟨⟨_,rfl,by omega,by omega⟩,(Fr.alloc hok _).trans hF1⟩
  | some x =>
    obtain ⟨hx,hst⟩ := openM_mem ho
    have hlt := HW.out.opens _ _ hx hst
    have hfew := HW.out.few _ _ hx
    have HO := Lib.hid ho
    have HX := Lib.hid hx
    have hg0 : (0 : Int) ≤ (x.granted : Int) := by omega
    have hg1 : (x.granted : Int) ≤ 64 := by omega
    have hc0 : (0 : Int) ≤ (x.claims.length : Int) := by omega
    have hc1 : (x.claims.length : Int) ≤ 64 := by omega
    clear ho hx hst
    have hfacts : ∀ w1,Fr (fun _ => False) tag tag w w1 → ∃ A cap,w1.cell? ⟨x.ptr,0,none⟩ = some (.slice A x.claims.length cap) ∧ w1.cell? ⟨x.ptr,2,none⟩ = some (.int .i64 x.granted) ∧ x.claims.length ≤ cap ∧ cap ≤ 2 ^ 63 - 1 := by
      intro w1 hF
      obtain ⟨cv,hxc,hxr⟩ := ((HP.out.fr hF (fun _ _ x => x)).props _ _ HX.out).cells
      obtain ⟨A,cap,rfl,hl1,hl2⟩ := hxr.form
      exact ⟨A,cap,cell_of hxc 0,cell_of hxc 2,hl1,hl2⟩
    have HFA := Lib.hid hfacts
    clear hfacts
    by_cases hmore : x.granted + 1 < x.claims.length
    · have hmI : (x.granted : Int) + 1 < (x.claims.length : Int) := by omega
      go_enter Try.func105,Try.ntmps105
      go_wp2_with (
        go_at_call 126
        refine (open_ok ⟨2,ms,md,mp,mi,mv⟩ (HP.out.alloc hok _) (hok.alloc _) HW.out.opens).mono ?_
        rw [HO.out,propPtr]
        rintro e w1 ⟨rfl,hF1⟩
        obtain ⟨A,cap,x0,x2,hl1,hl2⟩ := HFA.out w1 ((Fr.alloc hok _).trans hF1)
        have HF1 := Lib.hid ((Fr.alloc hok (.cells #[.int .i64 2,.int .i64 ms,.int .i64 md,.int .i64 mp,.int .i64 mi,.int .i64 mv] 49)).trans hF1)
        clear hF1)
      go_quiet (fail)
      go_wp2_with fail
      go_ret
      exact ⟨⟨_,rfl,by omega,by omega⟩,HF1.out.dN _⟩
    · have hmI : (x.claims.length : Int) ≤ (x.granted : Int) + 1 := by omega
      go_enter Try.func105,Try.ntmps105
      go_wp2_with (
        go_at_call 126
        refine (open_ok ⟨2,ms,md,mp,mi,mv⟩ (HP.out.alloc hok _) (hok.alloc _) HW.out.opens).mono ?_
        rw [HO.out,propPtr]
        rintro e w1 ⟨rfl,hF1⟩
        obtain ⟨A,cap,x0,x2,hl1,hl2⟩ := HFA.out w1 ((Fr.alloc hok _).trans hF1)
        have HF1 := Lib.hid ((Fr.alloc hok (.cells #[.int .i64 2,.int .i64 ms,.int .i64 md,.int .i64 mp,.int .i64 mi,.int .i64 mv] 49)).trans hF1)
        clear hF1)
      go_quiet (fail)
      go_wp2_with fail
      go_ret
      exact ⟨⟨_,rfl,by omega,by omega⟩,HF1.out.dN _⟩
theorem sends3_ok {tag : Nat → Tag} {k : Nat} {P : PlaceM} {w : World} (m : Post) (hP : PRep tag k w P) (hok : TagOk tag w) (hmk : m.kind = 3) (hW : WF P) :
    Calls Try.prog 105 #[.pointer (some ⟨P.ptr,0,none⟩),Post.val m] w (Few tag w) := by
  obtain ⟨mk,ms,md,mp,mi,mv⟩ := m
  simp only at hmk
  subst hmk
  have HP := Lib.hid hP
  have HW := Lib.hid hW
  clear hP hW
  unfold Post.val
  cases ho : openM P ⟨3,ms,md,mp,mi,mv⟩ with
  | none =>
    have HO := Lib.hid ho
    clear ho
    go_enter Try.func105,Try.ntmps105
    go_wp2_with (go_at_call 126; refine (open_ok ⟨3,ms,md,mp,mi,mv⟩ (HP.out.alloc hok _) (hok.alloc _) HW.out.opens).mono ?_; rw [HO.out,propPtr]; rintro e w1 ⟨rfl,hF1⟩)
    go_ret
    exact ⟨⟨_,rfl,by omega,by omega⟩,(Fr.alloc hok _).trans hF1⟩
  | some x =>
    obtain ⟨hx,hst⟩ := openM_mem ho
    have hlt := HW.out.opens _ _ hx hst
    have hfew := HW.out.few _ _ hx
    have HO := Lib.hid ho
    have HX := Lib.hid hx
    have hg0 : (0 : Int) ≤ (x.granted : Int) := by omega
    have hg1 : (x.granted : Int) ≤ 64 := by omega
    have hc0 : (0 : Int) ≤ (x.claims.length : Int) := by omega
    have hc1 : (x.claims.length : Int) ≤ 64 := by omega
    clear ho hx hst
    have hfacts : ∀ w1,Fr (fun _ => False) tag tag w w1 → ∃ A cap,w1.cell? ⟨x.ptr,0,none⟩ = some (.slice A x.claims.length cap) ∧ w1.cell? ⟨x.ptr,2,none⟩ = some (.int .i64 x.granted) ∧ x.claims.length ≤ cap ∧ cap ≤ 2 ^ 63 - 1 := by
      intro w1 hF
      obtain ⟨cv,hxc,hxr⟩ := ((HP.out.fr hF (fun _ _ x => x)).props _ _ HX.out).cells
      obtain ⟨A,cap,rfl,hl1,hl2⟩ := hxr.form
      exact ⟨A,cap,cell_of hxc 0,cell_of hxc 2,hl1,hl2⟩
    have HFA := Lib.hid hfacts
    clear hfacts
    go_enter Try.func105,Try.ntmps105
    go_wp2_with (
      go_at_call 126
      refine (open_ok ⟨3,ms,md,mp,mi,mv⟩ (HP.out.alloc hok _) (hok.alloc _) HW.out.opens).mono ?_
      rw [HO.out,propPtr]
      rintro e w1 ⟨rfl,hF1⟩
      obtain ⟨A,cap,x0,x2,hl1,hl2⟩ := HFA.out w1 ((Fr.alloc hok _).trans hF1)
      have HF1 := Lib.hid ((Fr.alloc hok (.cells #[.int .i64 3,.int .i64 ms,.int .i64 md,.int .i64 mp,.int .i64 mi,.int .i64 mv] 49)).trans hF1)
      clear hF1)
    go_ret
    exact ⟨⟨_,rfl,by omega,by omega⟩,HF1.out⟩
theorem sends_ok {tag : Nat → Tag} {k : Nat} {P : PlaceM} {w : World} (m : Post) (hP : PRep tag k w P) (hok : TagOk tag w) (hv : Valid P m) (hW : WF P) (hq : ∀ (j : Nat) (it : ItemM),P.items[j]? = some (some it) → it.queue.length ≤ 200)
    (hit : m.kind ≠ 2 → m.kind ≠ 3 → ∃ it,P.items[m.item.toNat]? = some (some it)) : Calls Try.prog 105 #[.pointer (some ⟨P.ptr,0,none⟩),Post.val m] w (Few tag w) := by
  obtain ⟨j,hj⟩ := Int.eq_ofNat_of_zero_le hv.item.1
  have hmi : m.item.toNat = j := by rw [hj]; rfl
  rcases (show m.kind = 1 ∨ m.kind = 2 ∨ m.kind = 3 ∨ m.kind = 4 ∨ m.kind = 5 by have := hv.kind; omega) with e | e | e | e | e
  · obtain ⟨it,hi⟩ := hit (by omega) (by omega)
    rw [hmi] at hi
    exact sends1_ok m hP hok e hi hj (hq _ _ hi)
  · exact sends2_ok m hP hok e hW
  · exact sends3_ok m hP hok e hW
  · obtain ⟨it,hi⟩ := hit (by omega) (by omega)
    rw [hmi] at hi
    exact sends4_ok m hP hok e hi hj (hq _ _ hi)
  · obtain ⟨it,hi⟩ := hit (by omega) (by omega)
    rw [hmi] at hi
    exact sends5_ok m hP hok e hi hj (hq _ _ hi)
theorem NRep.set_place {tag tag' : Nat → Tag} {w w' : World} {B p : Nat} {N : NetM} {P P' : PlaceM} (h : NRep tag B w N) (hp : N.places[p]? = some P) (hf : Fr (fun t => t.1 = B + 1 + p) tag tag' w w') (hP : PRep tag' (B + 1 + p) w' P') (hptr : P'.ptr = P.ptr) :
    NRep tag' B w' { N with places := N.places.set p P' } := by
  obtain ⟨pv,sv,fv,cv,hv,yv,dv,hc,h2,h3,h4,⟨cvs,h5,h6⟩,h7,⟨yvs,h8,h9⟩,h10⟩ := h.cells
  have no : ∀ (r : Nat) (j : Int),¬ (fun t : Tag => t.1 = B + 1 + p) (B,r,j) := fun r j => by simp; omega
  have hpl := (List.getElem?_eq_some_iff.1 hp).1
  have hmap : (N.places.set p P').map placePtr = N.places.map placePtr := by
    apply List.ext_getElem?
    intro i
    rw [List.getElem?_map,List.getElem?_map,List.getElem?_set]
    by_cases e : p = i
    · subst e
      rw [hp]
      simp [hpl,placePtr,hptr]
    · simp [e]
  refine ⟨h.b0,(hf.tag_eq hc).trans h.tptr,⟨pv,sv,fv,cv,hv,yv,dv,hf.heap hc (by rw [h.tptr]; exact no _ _),?_,h3.fr hf (no _ _),h4.fr hf (no _ _),⟨cvs,h5.fr hf (no _ _),fun i l hl => ?_⟩,h7.fr hf (no _ _),⟨yvs,h8.fr hf (no _ _),fun i l hl => ?_⟩,h10.fr hf (no _ _)⟩,fun i Q hQ => ?_⟩
  · show Row tag' (B,2,0) 27 1 w' pv (N.places.set p P').length ((N.places.set p P').map placePtr)
    rw [hmap,List.length_set]
    exact h2.fr hf (no _ _)
  · obtain ⟨v,hv,hr⟩ := h6 i l hl
    exact ⟨v,hv,hr.fr hf (no _ _)⟩
  · obtain ⟨v,hv,hr⟩ := h9 i l hl
    exact ⟨v,hv,hr.fr hf (no _ _)⟩
  · have hQ' : (N.places.set p P')[i]? = some Q := hQ
    rw [List.getElem?_set] at hQ'
    by_cases e : p = i
    · subst e
      simp [hpl] at hQ'
      subst hQ'
      exact hP
    · rw [if_neg e] at hQ'
      exact (h.places i Q hQ').fr hf (fun r j => by simp; omega)
def deliverN (N : NetM) (i p : Nat) (P : PlaceM) (m : Post) : NetM :=
  takeN { N with flight := N.flight.eraseIdx i,places := N.places.set p { takeM P m with out := [],came := [] } } (takeM P m).out (takeM P m).came
theorem deliver_ok {tag : Nat → Tag} {w : World} {B i p : Nat} {N : NetM} {P : PlaceM} {m : Post} (h : NRep tag B w N) (hok : TagOk tag w) (hi : N.flight[i]? = some m) (hmp : m.dst = p) (hp : N.places[p]? = some P)
    (hv : Valid P m) (ht : Tame P) (hq : ∀ (j : Nat) (it : ItemM),P.items[j]? = some (some it) → it.queue.length ≤ 200) (hpr : m.kind = 2 ∨ m.kind = 3 → ∃ x,find P.props m.prop = some x) (hit : m.kind ≠ 2 → m.kind ≠ 3 → ∃ it,P.items[m.item.toNat]? = some (some it))
    (hfl : N.flight.length ≤ 19000) (hout : (takeM P m).out.length ≤ 1000) (hcame : (takeM P m).came.length ≤ 1000) (hcit : ∀ c ∈ (takeM P m).came,c.kind = 3 → ∃ j : Nat,c.item = j ∧ j < N.history.length) (hd : N.decided.length ≤ 100000) (hh : ∀ j,(N.history.getD j []).length ≤ 100000) :
    Calls Try.prog 61 #[.pointer (some ⟨N.ptr,0,none⟩),.int .i64 (i : Int)] w fun e w' => ∃ cv,e = .returned (.tuple #[cv,.int .i64 0]) ∧ ∃ tag',NRep tag' B w' (deliverN N i p P m) ∧
      Row tag' (B + 1 + p,6,0) 106 3 w' cv (takeM P m).came.length (cames (takeM P m).came) ∧ Fr (fun t => t.1 = B ∨ t.1 = B + 1 + p) tag tag' w w' := by
  obtain ⟨mk,ms,md,mr,mi,mv⟩ := m
  simp only at hmp
  subst hmp
  obtain ⟨pv,sv,fv,xv,hv',yv,dv,hce,h2,h3,h4,⟨cvs,h5,h6⟩,h7,⟨yvs,h8,h9⟩,h10⟩ := h.cells
  obtain ⟨PA,pcap,rfl,q1,q2⟩ := h2.form
  obtain ⟨FA,fcap,rfl,q3,q4⟩ := h4.form
  unfold maxLen at q2 q4
  have hpl := (List.getElem?_eq_some_iff.1 hp).1
  have hil := (List.getElem?_eq_some_iff.1 hi).1
  obtain ⟨pb,rfl,_,_,hpc⟩ := h2.cell rfl (j:=p) (by simpa using hpl)
  obtain ⟨fb,rfl,hfbt,hfb,hfe⟩ := Row.elem (enc := Post.cells) h4 (fun _ => rfl) (by decide) hi
  have c0 : w.cell? ⟨N.ptr,0,none⟩ = some (.slice (some ⟨pb,0,none⟩) N.places.length pcap) := cell_of hce 0
  have c2 : w.cell? ⟨N.ptr,2,none⟩ = some (.slice (some ⟨fb,0,none⟩) N.flight.length fcap) := cell_of hce 2
  have g0 : w.cell? ⟨pb,p,none⟩ = some (.pointer (some ⟨P.ptr,0,none⟩)) := by rw [hpc,List.getElem?_map,hp]; rfl
  have e0 : w.cell? ⟨fb,i * 6,none⟩ = some (.int .i64 mk) := hfe 0 _ rfl
  have e1 : w.cell? ⟨fb,i * 6 + 1,none⟩ = some (.int .i64 ms) := hfe 1 _ rfl
  have e2 : w.cell? ⟨fb,i * 6 + 2,none⟩ = some (.int .i64 (p : Int)) := hfe 2 _ rfl
  have e3 : w.cell? ⟨fb,i * 6 + 3,none⟩ = some (.int .i64 mr) := hfe 3 _ rfl
  have e4 : w.cell? ⟨fb,i * 6 + 4,none⟩ = some (.int .i64 mi) := hfe 4 _ rfl
  have e5 : w.cell? ⟨fb,i * 6 + 5,none⟩ = some (.int .i64 mv) := hfe 5 _ rfl
  have i1 : (0 : Int) ≤ (i : Int) := by omega
  have i2 : (i : Int) < (N.flight.length : Int) := by omega
  have i3 : (0 : Int) ≤ (p : Int) := by omega
  have i4 : (p : Int) < (N.places.length : Int) := by omega
  have i5 : decide ((i : Int) < 0) = false := by simp
  have hn0 := lt_of_heap hce
  have hpbl := World.block_lt_of_cell? w _ g0
  have HN := Lib.hid h
  have HCE := Lib.hid hce
  have H4 := Lib.hid h4
  have HV := Lib.hid hv
  have HT := Lib.hid ht
  have HQ := Lib.hid hq
  have HPR := Lib.hid hpr
  have HIT := Lib.hid hit
  have HP := Lib.hid hp
  have HI := Lib.hid hi
  have HCIT := Lib.hid hcit
  have HH := Lib.hid hh
  clear h hce h2 h3 h4 h5 h6 h7 h8 h9 h10 hpc hfe hv ht hq hpr hit hp hi hcit hh
  go_enter Try.func61,Try.ntmps61
  go_wp2_with fail
  go_quiet (fail)
  obtain ⟨w1,hw1⟩ : ∃ w1,w1 = (w.alloc (.cells #[.int .i64 mk,.int .i64 ms,.int .i64 (p : Int),.int .i64 mr,.int .i64 mi,.int .i64 mv] 49)).drewN nq := ⟨_,rfl⟩
  rw [← hw1]
  have hF1 : Fr (fun _ => False) tag tag w w1 := by rw [hw1]; exact ((Fr.refl hok).al _).dN _
  have b0 : w1.cell? ⟨w.heap.size,0,none⟩ = some (.int .i64 mk) := by rw [hw1]; go_simp
  have b1 : w1.cell? ⟨w.heap.size,1,none⟩ = some (.int .i64 ms) := by rw [hw1]; go_simp
  have b2 : w1.cell? ⟨w.heap.size,2,none⟩ = some (.int .i64 (p : Int)) := by rw [hw1]; go_simp
  have b3 : w1.cell? ⟨w.heap.size,3,none⟩ = some (.int .i64 mr) := by rw [hw1]; go_simp
  have b4 : w1.cell? ⟨w.heap.size,4,none⟩ = some (.int .i64 mi) := by rw [hw1]; go_simp
  have b5 : w1.cell? ⟨w.heap.size,5,none⟩ = some (.int .i64 mv) := by rw [hw1]; go_simp
  have c2' := hF1.cellF c2
  have HF1 := Lib.hid hF1
  have hok1 := hF1.dom
  have hne : ∀ r j,tag w.heap.size ≠ (B,r,j) := fun r j => new_ne hok HN.out.b0
  have hnk : ∀ r j,tag w.heap.size ≠ (B + 1 + p,r,j) := fun r j => new_ne hok (by omega)
  clear hw1 hF1 c0 c2 g0 e0 e1 e2 e3 e4 e5
  have hL1 : (1 : Int) ≤ (N.flight.length : Int) := by omega
  have hL2 : (N.flight.length : Int) ≤ 19000 := by omega
  go_wp2_with fail
  refine start_ (n:=11) (S:=fun w' => w'.cell? ⟨N.ptr,2,none⟩ = some (.slice (some ⟨fb,0,none⟩) N.flight.length fcap) ∧ w'.cell? ⟨w.heap.size,0,none⟩ = some (.int .i64 mk) ∧ w'.cell? ⟨w.heap.size,1,none⟩ = some (.int .i64 ms) ∧ w'.cell? ⟨w.heap.size,2,none⟩ = some (.int .i64 (p : Int)) ∧ w'.cell? ⟨w.heap.size,3,none⟩ = some (.int .i64 mr) ∧ w'.cell? ⟨w.heap.size,4,none⟩ = some (.int .i64 mi) ∧ w'.cell? ⟨w.heap.size,5,none⟩ = some (.int .i64 mv)) (ds := []) #[f_,f_,f_,f_,f_,f_,f_,f_,f_,f_,f_] (by kernel_rfl) rfl rfl ⟨c2',b0,b1,b2,b3,b4,b5⟩ (fun hHeld => ?_)
  refine pv_ (i:=0) (N:=some 41) (v:=?_) (a':=?_) rfl rfl (by kernel_rfl) (fun _ _ _ h => h) (Or.inl ⟨by rfl,?_⟩) ?_ ?_
  rotate_left;intro w';go_simp;with_reducible rfl;rotate_left;simp only [Act.put,sA_,sB_,sC_,i64_w,i32_w];rfl
  refine pv_ (i:=1) (N:=some 42) (v:=?_) (a':=?_) rfl rfl (by kernel_rfl) (fun _ _ _ h => h) (Or.inl ⟨by rfl,?_⟩) ?_ ?_
  rotate_left;intro w';go_simp;with_reducible rfl;rotate_left;simp only [Act.put,sA_,sB_,sC_,i64_w,i32_w];rfl
  refine pv_ (i:=2) (N:=some 43) (v:=?_) (a':=?_) rfl rfl (by kernel_rfl) (fun _ _ _ h => h) (Or.inl ⟨by rfl,?_⟩) ?_ ?_
  rotate_left;intro w';go_simp;with_reducible rfl;rotate_left;simp only [Act.put,sA_,sB_,sC_,i64_w,i32_w];rfl
  refine pv_ (i:=6) (N:=some 47) (v:=?_) (a':=?_) rfl rfl (by kernel_rfl) (fun _ _ _ h => h) (Or.inl ⟨by rfl,?_⟩) ?_ ?_
  rotate_left;intro w';go_simp;with_reducible rfl;rotate_left;simp only [Act.put,sA_,sB_,sC_,i64_w,i32_w];rfl
  refine tv_ (i:=3) (N:=some 44) (v:=?_) (a':=?_) rfl rfl (by kernel_rfl) (fun _ _ _ h => h) (Or.inl ⟨by rfl,?_⟩) hHeld ?_ ?_
  rotate_left;rintro w' ⟨s0,s1,s2,s3,s4,s5,s6⟩;go_simp;with_reducible rfl;rotate_left;simp only [Act.put,sA_,sB_,sC_,i64_w,i32_w];rfl
  refine pv_ (i:=4) (N:=some 45) (v:=?_) (a':=?_) rfl rfl (by kernel_rfl) (fun _ _ _ h => h) (Or.inl ⟨by rfl,?_⟩) ?_ ?_
  rotate_left;intro w';go_simp;with_reducible rfl;rotate_left;simp only [Act.put,sA_,sB_,sC_,i64_w,i32_w];rfl
  refine pv_ (i:=5) (N:=some 46) (v:=?_) (a':=?_) rfl rfl (by kernel_rfl) (fun _ _ _ h => h) (Or.inl ⟨by rfl,?_⟩) ?_ ?_
  rotate_left;intro w';go_simp;with_reducible rfl;rotate_left;simp only [Act.put,sA_,sB_,sC_,i64_w,i32_w];rfl
  refine tv_ (i:=7) (N:=some 48) (v:=?_) (a':=?_) rfl rfl (by kernel_rfl) (fun _ _ _ h => h) (Or.inl ⟨by rfl,?_⟩) hHeld ?_ ?_
  rotate_left;rintro w' ⟨s0,s1,s2,s3,s4,s5,s6⟩;go_simp;with_reducible rfl;rotate_left;simp only [Act.put,sA_,sB_,sC_,i64_w,i32_w];rfl
  refine one_ (i:=8) (N:=some 49) #[t_,t_,t_,t_,t_,t_,t_,t_,t_,f_,f_] rfl rfl (by kernel_rfl) (by decide) (fun K hK => ?_)
  refine goes_ Try.func105 (by kernel_rfl) rfl #[.pointer (some ⟨P.ptr,0,none⟩),Post.val ⟨mk,ms,(p : Int),mr,mi,mv⟩] (by rfl) rfl rfl (by simp only [List.map_toArray,List.map_cons,List.map_nil]; rfl) ?_
  refine (sends_ok ⟨mk,ms,(p : Int),mr,mi,mv⟩ (((HN.out.places p P HP.out).fr HF1.out (fun _ _ x => x)).drew hok1) hok1.drew HV.out HT.out.wf HQ.out HIT.out).mono ?_
  rintro e w2 ⟨⟨ns,rfl,hs1,hs2⟩,hF2⟩
  have hwa : wrap64 ((N.flight.length : Int) - 1) = (N.flight.length : Int) - 1 := by rw [wrap64]; omega
  have hwb : wrap64 ((N.flight.length : Int) - 1 + ns) = (N.flight.length : Int) - 1 + ns := by rw [wrap64]; omega
  have hsum : decide ((20000 : Int) < (N.flight.length : Int) - 1 + ns) = false := by simp; omega
  refine ⟨_,rfl,?_⟩
  refine hK.out _ _ ⟨(hF2.cellF hHeld.1),(hF2.cellF hHeld.2.1),(hF2.cellF hHeld.2.2.1),(hF2.cellF hHeld.2.2.2.1),(hF2.cellF hHeld.2.2.2.2.1),(hF2.cellF hHeld.2.2.2.2.2.1),(hF2.cellF hHeld.2.2.2.2.2.2)⟩ (fun hHeld => ?_)
  clear hK K
  refine norm_ (a':=?_) ?_ ?_
  rotate_left
  · show Act.put _ (some 49) _ = _
    simp only [Act.put,sA_,sB_,sC_,i64_w,i32_w]
    rfl
  refine pv_ (i:=9) (N:=some 50) (v:=?_) (a':=?_) rfl rfl (by kernel_rfl) (fun _ _ _ h => h) (Or.inl ⟨by rfl,?_⟩) ?_ ?_
  rotate_left;intro w';go_simp;with_reducible rfl;rotate_left;simp only [Act.put,sA_,sB_,sC_,i64_w,i32_w];rfl
  refine pv_ (i:=10) (N:=some 51) (v:=?_) (a':=?_) rfl rfl (by kernel_rfl) (fun _ _ _ h => h) (Or.inl ⟨by rfl,?_⟩) ?_ ?_
  rotate_left;intro w';go_simp;with_reducible rfl;rotate_left;simp only [Act.put,sA_,sB_,sC_,i64_w,i32_w];rfl
  refine done_ (by kernel_rfl) ?_
  obtain ⟨c2'',d0,d1,d2,d3,d4,d5⟩ := hHeld
  have hF02 : Fr (fun _ => False) tag tag w w2 := (HF1.out.dr).trans hF2
  have HF02 := Lib.hid hF02
  have hce2 := hF02.heap HCE.out (fun x => x)
  have f2 := free_of hce2 2
  have HCE2 := Lib.hid hce2
  have hbw2 := World.block_lt_of_cell? w2 _ d0
  have hnw2 := lt_of_heap hce2
  clear hF02 hF2 hce2 b0 b1 b2 b3 b4 b5 c2' hs1 hs2 hHeld
  go_wp2_with (first
  | (
    go_at_call 46
    refine (delete46_ok N.flight i w2 (H4.out.fr HF02.out (fun x => x)) HF02.out.dom hil (by omega)).mono ?_
    rintro e w3 ⟨v3,rfl,hr3,hF3⟩
    obtain ⟨A3,cap3,rfl,z1,z2⟩ := hr3.form
    have hce3 := hF3.heap HCE2.out (by rw [HN.out.tptr]; simp)
    have k2 : w3.cell? ⟨N.ptr,2,none⟩ = some (.slice (some ⟨fb,0,none⟩) N.flight.length fcap) := cell_of hce3 2
    have kf := free_of hce3 2
    have hFs : Fr (· = (B,1,0)) tag tag w3 (w3.setCell ⟨N.ptr,2,none⟩ (.slice A3 (N.flight.length - 1) cap3)) := Fr.setCell hF3.dom (a := ⟨N.ptr,2,none⟩) HN.out.tptr _
    have hF24 : Fr (fun t => t = (B,1,0) ∨ t = (B,4,0)) tag tag w2 (w3.setCell ⟨N.ptr,2,none⟩ (.slice A3 (N.flight.length - 1) cap3)) := (hF3.mono (fun _ h => .inr h)).trans (hFs.mono (fun _ h => .inl h))
    have hN4 : NRep tag B (w3.setCell ⟨N.ptr,2,none⟩ (.slice A3 (N.flight.length - 1) cap3)) { N with flight := N.flight.eraseIdx i } := by
      refine (HN.out.fr HF02.out (fun _ _ _ _ x => x)).set_flight hF24 (fun _ h => h) _ ?_
      intro pv' sv' fv' cv' hv'' yv' dv' hx
      obtain ⟨rfl,rfl,rfl,rfl,rfl,rfl,rfl⟩ : pv' = _ ∧ sv' = sv ∧ fv' = _ ∧ cv' = xv ∧ hv'' = hv' ∧ yv' = yv ∧ dv' = dv := by
        have := hx.symm.trans HCE2.out
        simpa using this
      refine ⟨.slice A3 (N.flight.length - 1) cap3,?_,?_⟩
      · rw [Go.Ng.heap_setCell_same hce3]; rfl
      · rw [List.length_eraseIdx_of_lt hil]
        exact hr3.fr hFs (by simp)
    have hb : ∀ o u,w2.cell? ⟨w.heap.size,o,none⟩ = some u → (w3.setCell ⟨N.ptr,2,none⟩ (.slice A3 (N.flight.length - 1) cap3)).cell? ⟨w.heap.size,o,none⟩ = some u :=
      fun o u hu => hF24.cell hu (fun h => h.elim (hne _ _) (hne _ _))
    have D0 := hb _ _ d0
    have D1 := hb _ _ d1
    have D2 := hb _ _ d2
    have D3 := hb _ _ d3
    have D4 := hb _ _ d4
    have D5 := hb _ _ d5
    have HN4 := Lib.hid hN4
    have HF4 := Lib.hid ((HF02.out.mono (S' := fun t => t.1 = B ∨ t.1 = B + 1 + p) (fun _ h => h.elim)).trans (hF24.mono (fun t h => by rcases h with h | h <;> rw [h] <;> exact .inl rfl)))
    clear hF3 hr3 hce3 hFs hF24 hN4 hb d0 d1 d2 d3 d4 d5 c2'' f2)
  | (
    go_at_call 25
    refine (take_ok ⟨mk,ms,(p : Int),mr,mi,mv⟩ (HN4.out.places p P HP.out) HF4.out.dom HV.out HT.out HPR.out HIT.out).mono ?_
    rintro e w5 ⟨ov,cv,rfl,tag5,ho,hc,hP5,hF5⟩
    have HO := Lib.hid ho
    have HC := Lib.hid hc
    have HN5 := Lib.hid (HN4.out.set_place HP.out hF5 hP5 (takeM_ptr P _))
    have HF5 := Lib.hid (HF4.out.trans (hF5.mono (S' := fun t => t.1 = B ∨ t.1 = B + 1 + p) (fun t h => .inr h)))
    clear ho hc hP5 hF5)
  | (
    go_at_call 102
    refine (ntake_ok HN5.out HF5.out.dom (by omega) HO.out HC.out HCIT.out (by show (N.flight.eraseIdx i).length ≤ _; rw [List.length_eraseIdx_of_lt hil]; omega) (by omega) (by omega) hd HH.out).mono ?_
    rintro e w6 ⟨rfl,tag6,hN6,hF6⟩
    have HC6 := Lib.hid (HC.out.fr hF6 (by simp; omega))
    have HN6 := Lib.hid hN6
    have HF6 := Lib.hid (HF5.out.trans (hF6.mono (S' := fun t => t.1 = B ∨ t.1 = B + 1 + p) (fun t h => .inl h)))
    clear hN6 hF6))
  go_ret2
  exact ⟨cv,rfl,tag6,HN6.out,HC6.out,HF6.out⟩
end Go.Proofs.Ytclkokkppgchfaa
namespace Go.Ng
structure It where
  hold : Option Int
  queue : List Int
  ver : Int
  thr : List Int
  hist : List Int
structure Pr where
  claims : List Clm
  st : Int
  got : Nat
structure G where
  n : Nat
  np : Nat
  items : Int → It
  props : Int → Pr
  fl : List Post
  dec : List Int
  places : Nat
  site : Int → Int
  home : Int → Int
def addP (n : Int) (l : List Int) : List Int := if n ∈ l then l else l ++ [n]
theorem mem_addP {x n : Int} {l : List Int} : x ∈ addP n l ↔ x = n ∨ x ∈ l := by
  unfold addP; split
  · constructor
    · exact .inr
    · rintro (rfl | h) <;> assumption
  · simp [or_comm]
def thrAll : List Int → List Int → List Int
  | [],t => t
  | a :: l,t => thrAll l (addP a t)
theorem mem_thrAll {x : Int} : ∀ {l t : List Int},x ∈ thrAll l t ↔ x ∈ l ∨ x ∈ t
  | [],t => by simp [thrAll]
  | a :: l,t => by rw [thrAll,mem_thrAll,mem_addP]; grind
namespace G
def setI (g : G) (j : Int) (x : It) : G := { g with items := fun i => if i = j then x else g.items i }
def setP (g : G) (p : Int) (x : Pr) : G := { g with props := fun i => if i = p then x else g.props i }
def has (g : G) (k p j : Int) : Prop := ∃ m ∈ g.fl,m.kind = k ∧ m.prop = p ∧ m.item = j
def at_ (g : G) (p j : Int) : Prop := (g.props p).st = 1 ∧ ((g.props p).claims[(g.props p).got]?.map (·.item)) = some j
def cl (g : G) (p : Int) (i : Nat) (j : Int) : Prop := ((g.props p).claims[i]?.map (·.item)) = some j
def claimsI (g : G) (j p : Int) : Bool := (g.props p).claims.any fun c => c.item == j
def held (g : G) (j : Int) : List Int := match (g.items j).hold with | some p => if (g.props p).st = 2 then [p] else [] | none => []
end G
structure Inv (g : G) (ms : Int → Int → Int → Prop) : Prop where
  rng : ∀ p i j,g.cl p i j → 0 ≤ p ∧ p < g.np ∧ 0 ≤ j ∧ j < g.n
  srt : ∀ p i i' j j',g.cl p i j → g.cl p i' j' → i < i' → j < j'
  st0 : ∀ p,(g.props p).st = 0 ∨ (g.props p).st = 1 ∨ (g.props p).st = 2 ∨ (g.props p).st = 3 ∨ (g.props p).st = 4
  zero : ∀ p,(g.props p).st = 0 ↔ (g.props p).claims = []
  full : ∀ p : Int,0 ≤ p → p < g.np → (g.props p).claims ≠ []
  got1 : ∀ p,(g.props p).st = 1 ∨ (g.props p).st = 3 ∨ (g.props p).st = 4 → (g.props p).got < (g.props p).claims.length
  got2 : ∀ p,(g.props p).st = 2 → (g.props p).got = (g.props p).claims.length
  len : ∀ p,(g.props p).claims.length ≤ 64
  mcl : ∀ k p j,ms k p j → 1 ≤ k ∧ k ≤ 5 ∧ ∃ i,i ≤ (g.props p).got ∧ g.cl p i j
  hcl : ∀ j p,(g.items j).hold = some p → ∃ i,i ≤ (g.props p).got ∧ g.cl p i j
  qcl : ∀ j p,p ∈ (g.items j).queue → ∃ i,i ≤ (g.props p).got ∧ g.cl p i j
  tcl : ∀ j p,p ∈ (g.items j).thr → ∃ i,i ≤ (g.props p).got ∧ g.cl p i j
  hver : ∀ j p,(g.items j).hold = some p ∨ p ∈ (g.items j).queue → ⟨j,(g.items j).ver⟩ ∈ (g.props p).claims
  vh : ∀ j,(g.items j).ver = (g.items j).hist.length
  hnd : ∀ j,(g.items j).hist.Nodup
  ht : ∀ j p,p ∈ (g.items j).hist → p ∈ (g.items j).thr
  hh : ∀ j p,(g.items j).hold = some p → p ∉ (g.items j).thr ∧ p ∉ (g.items j).queue
  qt : ∀ j p,p ∈ (g.items j).queue → p ∉ (g.items j).thr
  qnd : ∀ j,(g.items j).queue.Nodup
  qh : ∀ j p,p ∈ (g.items j).queue → ∃ q,(g.items j).hold = some q
  c1 : ∀ p j,ms 2 p j → (g.items j).hold = some p ∨ p ∈ (g.items j).thr
  c2 : ∀ p i j,g.cl p i j → i < (g.props p).got → (g.items j).hold = some p ∨ p ∈ (g.items j).thr
  c3 : ∀ p j,ms 2 p j → (g.props p).st = 1 ∨ (g.props p).st = 2 → (g.items j).hold = some p ∨ p ∈ (g.items j).hist
  c4 : ∀ p i j,g.cl p i j → i < (g.props p).got → (g.props p).st = 1 ∨ (g.props p).st = 2 → (g.items j).hold = some p ∨ p ∈ (g.items j).hist
  c5 : ∀ p j,ms 5 p j → (g.props p).st = 3 ∨ (g.props p).st = 4
  c7 : ∀ p j,ms 4 p j → (g.props p).st = 2
  c6 : ∀ p j,ms 3 p j → p ∈ (g.items j).thr
  ch : ∀ p j,p ∈ (g.items j).hist → (g.props p).st = 2
  d1a : ∀ p j,g.at_ p j → (g.items j).hold = some p → ms 2 p j
  d1b : ∀ p j,g.at_ p j → p ∈ (g.items j).thr → ms 3 p j
  d1c : ∀ p j,g.at_ p j → (g.items j).hold ≠ some p → p ∉ (g.items j).thr → p ∉ (g.items j).queue → ms 1 p j
  d2 : ∀ p i j,(g.props p).st = 3 ∨ (g.props p).st = 4 → g.cl p i j → i ≤ (g.props p).got → p ∈ (g.items j).thr ∨ ms 5 p j
  d3 : ∀ p i j,(g.props p).st = 2 → g.cl p i j → p ∈ (g.items j).hist ∨ ms 4 p j
  e0 : g.dec.Nodup
  e1 : ∀ p,p ∈ g.dec ↔ (g.props p).st = 2
  e2 : ∀ j,g.dec.filter (g.claimsI j) = (g.items j).hist ++ g.held j
  e3 : ∀ j (v : Nat) p,(g.items j).hist[v]? = some p → ⟨j,(v : Int)⟩ ∈ (g.props p).claims
structure Flew (ms ms' new : Int → Int → Int → Prop) (m : Post) : Prop where
  self : ms m.kind m.prop m.item
  old : ∀ k p j,ms' k p j → ms k p j ∨ new k p j
  keep : ∀ k p j,ms k p j → ¬ (k = m.kind ∧ p = m.prop ∧ j = m.item) → ms' k p j
  sent : ∀ k p j,new k p j → ms' k p j
end Go.Ng
namespace Go.Ng
section
variable {g g' : G} {ms ms' new : Int → Int → Int → Prop} {m : Post}
theorem cl_inj (I : Inv g ms) {p : Int} {i i' : Nat} {j : Int} (h : g.cl p i j) (h' : g.cl p i' j) : i = i' := by
  rcases Nat.lt_trichotomy i i' with e | e | e
  · have := I.srt _ _ _ _ _ h h' e; omega
  · exact e
  · have := I.srt _ _ _ _ _ h' h e; omega
theorem cl_of_mem {p : Int} {c : Clm} (h : c ∈ (g.props p).claims) : ∃ i,g.cl p i c.item := by
  obtain ⟨i,hi⟩ := List.getElem?_of_mem h
  exact ⟨i,by simp [G.cl,hi]⟩
theorem cl_lt {p : Int} {i : Nat} {j : Int} (h : g.cl p i j) : i < (g.props p).claims.length := by
  unfold G.cl at h
  rcases Nat.lt_or_ge i (g.props p).claims.length with e | e
  · exact e
  · rw [List.getElem?_eq_none e] at h; cases h
theorem cl_some {p : Int} {i : Nat} (h : i < (g.props p).claims.length) : ∃ j,g.cl p i j := ⟨(g.props p).claims[i].item,by simp [G.cl,h]⟩
theorem at_cl {p j : Int} (h : g.at_ p j) : (g.props p).st = 1 ∧ g.cl p (g.props p).got j := h
theorem claims_cl {p j : Int} {i : Nat} (h : g.cl p i j) : g.claimsI j p = true := by
  have hl := cl_lt h
  simp [G.cl,hl] at h
  simp only [G.claimsI,List.any_eq_true]
  exact ⟨_,List.getElem_mem hl,by simp [h]⟩
theorem cl_claims {p j : Int} (h : g.claimsI j p = true) : ∃ i,g.cl p i j := by
  simp only [G.claimsI,List.any_eq_true] at h
  obtain ⟨c,hc,e⟩ := h
  obtain ⟨i,hi⟩ := cl_of_mem hc
  exact ⟨i,by simpa [show c.item = j by simpa using e] using hi⟩
structure SameP (g g' : G) : Prop where
  n : g'.n = g.n
  np : g'.np = g.np
  props : ∀ p,g'.props p = g.props p
  dec : g'.dec = g.dec
theorem SameP.cl (h : SameP g g') : g'.cl = g.cl := by funext p i j; simp [G.cl,h.props]
theorem SameP.at_ (h : SameP g g') : g'.at_ = g.at_ := by funext p j; simp [G.at_,h.props]
theorem SameP.claimsI (h : SameP g g') : g'.claimsI = g.claimsI := by funext p j; simp [G.claimsI,h.props]
theorem inv_idle (I : Inv g ms) (s : SameP g g') (hnew : ∀ k p j,¬ new k p j) (h : (m.kind = 1 ∧ (m.prop ∈ (g.items m.item).thr ∨ (g.items m.item).hold = some m.prop ∨ m.prop ∈ (g.items m.item).queue)) ∨ ((m.kind = 2 ∨ m.kind = 3) ∧ ¬ g.at_ m.prop m.item) ∨ (m.kind = 4 ∧ (g.items m.item).hold ≠ some m.prop))
    (F : Flew ms ms' new m) (s1 : ∀ j,j ≠ m.item → g'.items j = g.items j) (s2 : (g'.items m.item).hold = (g.items m.item).hold) (s3 : (g'.items m.item).queue = (g.items m.item).queue) (s4 : (g'.items m.item).ver = (g.items m.item).ver) (s5 : ∀ p,p ∈ (g'.items m.item).thr ↔ p ∈ (g.items m.item).thr) (s6 : (g'.items m.item).hist = (g.items m.item).hist) : Inv g' ms' := by
  obtain ⟨f1,f2,f3,f4⟩ := F
  obtain ⟨a1,a2,a3,a4⟩ := s
  have b1 := SameP.cl ⟨a1,a2,a3,a4⟩
  have b2 := SameP.at_ ⟨a1,a2,a3,a4⟩
  have b3 := SameP.claimsI ⟨a1,a2,a3,a4⟩
  constructor
  all_goals (try simp only [b1,b2,b3,a1,a2,a3,a4])
  case rng => exact I.rng
  case srt => exact I.srt
  case st0 => exact I.st0
  case zero => exact I.zero
  case full => exact I.full
  case got1 => exact I.got1
  case got2 => exact I.got2
  case len => exact I.len
  case mcl => have i0 := I.mcl; have i1 := I.qcl; grind
  case hcl => have i0 := I.hcl; have i1 := I.mcl; have i2 := I.qcl; grind
  case qcl => have i0 := I.qcl; have i1 := I.mcl; grind
  case tcl => have i0 := I.tcl; have i1 := I.mcl; have i2 := I.qcl; grind
  case hver => have i0 := I.hver; have i1 := I.qcl; grind
  case vh => have i0 := I.vh; grind
  case hnd => have i0 := I.hnd; have i1 := I.ht; have i2 := I.hh; grind
  case ht => have i0 := I.ht; grind
  case hh => have i0 := I.hh; have i1 := I.qt; have i2 := I.qnd; grind
  case qt => have i0 := I.qt; have i1 := I.hh; grind
  case qnd => have i0 := I.qnd; grind
  case qh => have i0 := I.qh; grind
  case c1 => have i0 := I.c1; grind
  case c2 => have i0 := I.c2; grind
  case c3 => have i0 := I.c3; grind
  case c4 => have i0 := I.c4; grind
  case c5 => have i0 := I.c5; grind
  case c7 => have i0 := I.c7; grind
  case c6 => have i0 := I.c6; grind
  case ch => have i0 := I.ch; have i1 := I.c7; grind
  case d1a => have i0 := I.d1a; have i1 := I.hh; grind
  case d1b => have i0 := I.d1b; grind
  case d1c => have i0 := I.d1c; grind
  case d2 => have i0 := I.d2; grind
  case d3 =>
    have i0 := I.d3; have i1 := I.c4; have i2 := I.got2
    intro p i j h1 h2
    have h3 := cl_lt h2
    have h4 := i1 p i j h2 (by rw [i2 p h1]; exact h3) (.inr h1)
    grind
  case e0 => exact I.e0
  case e1 => exact I.e1
  case e2 =>
    intro j
    have : g'.held j = g.held j := by unfold G.held; by_cases e : j = m.item <;> simp [*]
    rw [I.e2 j,this]; by_cases e : j = m.item <;> simp [*]
  case e3 => have i0 := I.e3; have i1 := I.hver; have i2 := I.vh; grind
theorem inv_askNo (I : Inv g ms) (s : SameP g g') (h : m.kind = 1) (h2 : (g.items m.item).hold ≠ some m.prop) (h1 : m.prop ∉ (g.items m.item).thr) (h3 : m.prop ∉ (g.items m.item).queue) (hnew : ∀ k p j,new k p j ↔ k = 3 ∧ p = m.prop ∧ j = m.item)
    (F : Flew ms ms' new m) (s1 : ∀ j,j ≠ m.item → g'.items j = g.items j) (s2 : (g'.items m.item).hold = (g.items m.item).hold) (s3 : (g'.items m.item).queue = (g.items m.item).queue) (s4 : (g'.items m.item).ver = (g.items m.item).ver) (s5 : ∀ p,p ∈ (g'.items m.item).thr ↔ p = m.prop ∨ p ∈ (g.items m.item).thr) (s6 : (g'.items m.item).hist = (g.items m.item).hist) : Inv g' ms' := by
  obtain ⟨f1,f2,f3,f4⟩ := F
  obtain ⟨a1,a2,a3,a4⟩ := s
  have b1 := SameP.cl ⟨a1,a2,a3,a4⟩
  have b2 := SameP.at_ ⟨a1,a2,a3,a4⟩
  have b3 := SameP.claimsI ⟨a1,a2,a3,a4⟩
  constructor
  all_goals (try simp only [b1,b2,b3,a1,a2,a3,a4])
  case rng => exact I.rng
  case srt => exact I.srt
  case st0 => exact I.st0
  case zero => exact I.zero
  case full => exact I.full
  case got1 => exact I.got1
  case got2 => exact I.got2
  case len => exact I.len
  case mcl => have i0 := I.mcl; have i1 := I.qcl; grind
  case hcl => have i0 := I.hcl; have i1 := I.mcl; have i2 := I.qcl; grind
  case qcl => have i0 := I.qcl; have i1 := I.mcl; grind
  case tcl => have i0 := I.tcl; have i1 := I.mcl; have i2 := I.qcl; grind
  case hver => have i0 := I.hver; have i1 := I.qcl; grind
  case vh => have i0 := I.vh; grind
  case hnd => have i0 := I.hnd; have i1 := I.ht; have i2 := I.hh; grind
  case ht => have i0 := I.ht; grind
  case hh => have i0 := I.hh; have i1 := I.qt; have i2 := I.qnd; grind
  case qt => have i0 := I.qt; have i1 := I.hh; grind
  case qnd => have i0 := I.qnd; grind
  case qh => have i0 := I.qh; grind
  case c1 => have i0 := I.c1; grind
  case c2 => have i0 := I.c2; grind
  case c3 => have i0 := I.c3; grind
  case c4 => have i0 := I.c4; grind
  case c5 => have i0 := I.c5; grind
  case c7 => have i0 := I.c7; grind
  case c6 => have i0 := I.c6; grind
  case ch => have i0 := I.ch; have i1 := I.c7; grind
  case d1a => have i0 := I.d1a; grind
  case d1b => have i0 := I.d1b; grind
  case d1c => have i0 := I.d1c; grind
  case d2 => have i0 := I.d2; grind
  case d3 => have i0 := I.d3; grind
  case e0 => exact I.e0
  case e1 => exact I.e1
  case e2 =>
    intro j
    have : g'.held j = g.held j := by unfold G.held; by_cases e : j = m.item <;> simp [*]
    rw [I.e2 j,this]; by_cases e : j = m.item <;> simp [*]
  case e3 => have i0 := I.e3; have i1 := I.hver; have i2 := I.vh; grind
theorem inv_askWait (I : Inv g ms) (s : SameP g g') (q : Int) (hv : ⟨m.item,(g.items m.item).ver⟩ ∈ (g.props m.prop).claims) (h : m.kind = 1) (h2 : (g.items m.item).hold = some q) (h2' : q ≠ m.prop) (h1 : m.prop ∉ (g.items m.item).thr) (h3 : m.prop ∉ (g.items m.item).queue) (hnew : ∀ k p j,¬ new k p j)
    (F : Flew ms ms' new m) (s1 : ∀ j,j ≠ m.item → g'.items j = g.items j) (s2 : (g'.items m.item).hold = (g.items m.item).hold) (s3 : (g'.items m.item).queue = (g.items m.item).queue ++ [m.prop]) (s4 : (g'.items m.item).ver = (g.items m.item).ver) (s5 : ∀ p,p ∈ (g'.items m.item).thr ↔ p ∈ (g.items m.item).thr) (s6 : (g'.items m.item).hist = (g.items m.item).hist) : Inv g' ms' := by
  obtain ⟨f1,f2,f3,f4⟩ := F
  obtain ⟨a1,a2,a3,a4⟩ := s
  have b1 := SameP.cl ⟨a1,a2,a3,a4⟩
  have b2 := SameP.at_ ⟨a1,a2,a3,a4⟩
  have b3 := SameP.claimsI ⟨a1,a2,a3,a4⟩
  constructor
  all_goals (try simp only [b1,b2,b3,a1,a2,a3,a4])
  case rng => exact I.rng
  case srt => exact I.srt
  case st0 => exact I.st0
  case zero => exact I.zero
  case full => exact I.full
  case got1 => exact I.got1
  case got2 => exact I.got2
  case len => exact I.len
  case mcl => have i0 := I.mcl; have i1 := I.qcl; grind
  case hcl => have i0 := I.hcl; have i1 := I.mcl; have i2 := I.qcl; grind
  case qcl => have i0 := I.qcl; have i1 := I.mcl; grind
  case tcl => have i0 := I.tcl; have i1 := I.mcl; have i2 := I.qcl; grind
  case hver => have i0 := I.hver; have i1 := I.qcl; grind
  case vh => have i0 := I.vh; grind
  case hnd => have i0 := I.hnd; have i1 := I.ht; have i2 := I.hh; grind
  case ht => have i0 := I.ht; grind
  case hh => have i0 := I.hh; have i1 := I.qt; have i2 := I.qnd; grind
  case qt => have i0 := I.qt; have i1 := I.hh; grind
  case qnd => have i0 := I.qnd; grind
  case qh => have i0 := I.qh; grind
  case c1 => have i0 := I.c1; grind
  case c2 => have i0 := I.c2; grind
  case c3 => have i0 := I.c3; grind
  case c4 => have i0 := I.c4; grind
  case c5 => have i0 := I.c5; grind
  case c7 => have i0 := I.c7; grind
  case c6 => have i0 := I.c6; grind
  case ch => have i0 := I.ch; have i1 := I.c7; grind
  case d1a => have i0 := I.d1a; grind
  case d1b => have i0 := I.d1b; grind
  case d1c => have i0 := I.d1c; grind
  case d2 => have i0 := I.d2; grind
  case d3 => have i0 := I.d3; grind
  case e0 => exact I.e0
  case e1 => exact I.e1
  case e2 =>
    intro j
    have : g'.held j = g.held j := by unfold G.held; by_cases e : j = m.item <;> simp [*]
    rw [I.e2 j,this]; by_cases e : j = m.item <;> simp [*]
  case e3 => have i0 := I.e3; have i1 := I.hver; have i2 := I.vh; grind
theorem inv_askYes (I : Inv g ms) (s : SameP g g') (hv : ⟨m.item,(g.items m.item).ver⟩ ∈ (g.props m.prop).claims) (h : m.kind = 1) (h2 : (g.items m.item).hold = none) (h1 : m.prop ∉ (g.items m.item).thr) (h3 : m.prop ∉ (g.items m.item).queue) (hnew : ∀ k p j,new k p j ↔ k = 2 ∧ p = m.prop ∧ j = m.item)
    (F : Flew ms ms' new m) (s1 : ∀ j,j ≠ m.item → g'.items j = g.items j) (s2 : (g'.items m.item).hold = some m.prop) (s3 : (g'.items m.item).queue = (g.items m.item).queue) (s4 : (g'.items m.item).ver = (g.items m.item).ver) (s5 : ∀ p,p ∈ (g'.items m.item).thr ↔ p ∈ (g.items m.item).thr) (s6 : (g'.items m.item).hist = (g.items m.item).hist) : Inv g' ms' := by
  obtain ⟨f1,f2,f3,f4⟩ := F
  obtain ⟨a1,a2,a3,a4⟩ := s
  have b1 := SameP.cl ⟨a1,a2,a3,a4⟩
  have b2 := SameP.at_ ⟨a1,a2,a3,a4⟩
  have b3 := SameP.claimsI ⟨a1,a2,a3,a4⟩
  constructor
  all_goals (try simp only [b1,b2,b3,a1,a2,a3,a4])
  case rng => exact I.rng
  case srt => exact I.srt
  case st0 => exact I.st0
  case zero => exact I.zero
  case full => exact I.full
  case got1 => exact I.got1
  case got2 => exact I.got2
  case len => exact I.len
  case mcl => have i0 := I.mcl; have i1 := I.qcl; grind
  case hcl => have i0 := I.hcl; have i1 := I.mcl; have i2 := I.qcl; grind
  case qcl => have i0 := I.qcl; have i1 := I.mcl; grind
  case tcl => have i0 := I.tcl; have i1 := I.mcl; have i2 := I.qcl; grind
  case hver => have i0 := I.hver; have i1 := I.qcl; grind
  case vh => have i0 := I.vh; grind
  case hnd => have i0 := I.hnd; have i1 := I.ht; have i2 := I.hh; grind
  case ht => have i0 := I.ht; grind
  case hh => have i0 := I.hh; have i1 := I.qt; have i2 := I.qnd; grind
  case qt => have i0 := I.qt; have i1 := I.hh; grind
  case qnd => have i0 := I.qnd; grind
  case qh => have i0 := I.qh; grind
  case c1 => have i0 := I.c1; grind
  case c2 => have i0 := I.c2; grind
  case c3 => have i0 := I.c3; grind
  case c4 => have i0 := I.c4; grind
  case c5 => have i0 := I.c5; grind
  case c7 => have i0 := I.c7; grind
  case c6 => have i0 := I.c6; grind
  case ch => have i0 := I.ch; have i1 := I.c7; grind
  case d1a => have i0 := I.d1a; grind
  case d1b => have i0 := I.d1b; grind
  case d1c => have i0 := I.d1c; grind
  case d2 => have i0 := I.d2; grind
  case d3 => have i0 := I.d3; grind
  case e0 => exact I.e0
  case e1 => exact I.e1
  case e2 =>
    intro j
    have h9 : (g.props m.prop).st ≠ 2 := by
      intro e
      have i1 := I.mcl _ _ _ f1
      obtain ⟨_,_,i,_,hi⟩ := i1
      have := I.c4 m.prop i m.item hi (by rw [I.got2 _ e]; exact cl_lt hi) (.inr e)
      have i0 := I.ht
      grind
    rw [I.e2 j]
    by_cases e : j = m.item
    · subst e; simp [G.held, *]
    · simp [G.held, *]
  case e3 => have i0 := I.e3; have i1 := I.hver; have i2 := I.vh; grind
theorem inv_commit (I : Inv g ms) (s : SameP g g') (h : m.kind = 4) (h1 : (g.items m.item).hold = some m.prop) (hnew : ∀ k p j,new k p j ↔ k = 3 ∧ p ∈ (g.items m.item).queue ∧ j = m.item)
    (F : Flew ms ms' new m) (s1 : ∀ j,j ≠ m.item → g'.items j = g.items j) (s2 : (g'.items m.item).hold = none) (s3 : (g'.items m.item).queue = []) (s4 : (g'.items m.item).ver = (g.items m.item).ver + 1) (s5 : ∀ p,p ∈ (g'.items m.item).thr ↔ p ∈ (g.items m.item).queue ∨ p = m.prop ∨ p ∈ (g.items m.item).thr) (s6 : (g'.items m.item).hist = (g.items m.item).hist ++ [m.prop]) : Inv g' ms' := by
  obtain ⟨f1,f2,f3,f4⟩ := F
  obtain ⟨a1,a2,a3,a4⟩ := s
  have b1 := SameP.cl ⟨a1,a2,a3,a4⟩
  have b2 := SameP.at_ ⟨a1,a2,a3,a4⟩
  have b3 := SameP.claimsI ⟨a1,a2,a3,a4⟩
  have h7 := I.c7 m.prop m.item (by rw [← h]; exact f1)
  have h8 := I.hver m.item m.prop (.inl h1)
  have h9 := I.vh m.item
  have h30 : ∀ j,¬ g.at_ m.prop j := fun j e => by have := (at_cl e).1; omega
  constructor
  all_goals (try simp only [b1,b2,b3,a1,a2,a3,a4])
  case rng => exact I.rng
  case srt => exact I.srt
  case st0 => exact I.st0
  case zero => exact I.zero
  case full => exact I.full
  case got1 => exact I.got1
  case got2 => exact I.got2
  case len => exact I.len
  case mcl => have i0 := I.mcl; have i1 := I.qcl; grind
  case hcl => have i0 := I.hcl; have i1 := I.mcl; have i2 := I.qcl; grind
  case qcl => have i0 := I.qcl; have i1 := I.mcl; grind
  case tcl => have i0 := I.tcl; have i1 := I.mcl; have i2 := I.qcl; have i3 := I.hcl; grind
  case hver => have i0 := I.hver; have i1 := I.qcl; grind
  case vh => have i0 := I.vh; grind
  case hnd => have i0 := I.hnd; have i1 := I.ht; have i2 := I.hh; grind
  case ht => have i0 := I.ht; grind
  case hh => have i0 := I.hh; have i1 := I.qt; have i2 := I.qnd; grind
  case qt => have i0 := I.qt; have i1 := I.hh; grind
  case qnd => have i0 := I.qnd; grind
  case qh => have i0 := I.qh; grind
  case c1 => have i0 := I.c1; grind
  case c2 => have i0 := I.c2; grind
  case c3 => have i0 := I.c3; grind
  case c4 => have i0 := I.c4; grind
  case c5 => have i0 := I.c5; grind
  case c7 => have i0 := I.c7; grind
  case c6 => have i0 := I.c6; grind
  case ch => have i0 := I.ch; have i1 := I.c7; grind
  case d1a => have i0 := I.d1a; grind
  case d1b => have i0 := I.d1b; grind
  case d1c => have i0 := I.d1c; grind
  case d2 => have i0 := I.d2; grind
  case d3 => have i0 := I.d3; grind
  case e0 => exact I.e0
  case e1 => exact I.e1
  case e2 =>
    intro j
    rw [I.e2 j]
    by_cases e : j = m.item
    · subst e; simp [G.held, *]
    · simp [G.held, *]
  case e3 =>
    intro j v p hp
    by_cases e : j = m.item
    · subst e
      rw [s6] at hp
      rw [List.getElem?_append] at hp
      split at hp
      · exact I.e3 _ _ _ hp
      · rename_i hv
        have hv' : v = (g.items m.item).hist.length := by
          by_cases hz : v - (g.items m.item).hist.length = 0
          · omega
          · rw [List.getElem?_eq_none (by simp; omega)] at hp; cases hp
        subst hv'
        simp at hp
        subst hp
        rw [h9] at h8; exact h8
    · exact I.e3 _ _ _ (by rw [s1 _ e] at hp; exact hp)
theorem inv_freeOther (I : Inv g ms) (s : SameP g g') (h : m.kind = 5) (h1 : (g.items m.item).hold ≠ some m.prop) (hnew : ∀ k p j,¬ new k p j)
    (F : Flew ms ms' new m) (s1 : ∀ j,j ≠ m.item → g'.items j = g.items j) (s2 : (g'.items m.item).hold = (g.items m.item).hold) (s3 : (g'.items m.item).queue = (g.items m.item).queue.filter (· ≠ m.prop)) (s4 : (g'.items m.item).ver = (g.items m.item).ver) (s5 : ∀ p,p ∈ (g'.items m.item).thr ↔ p = m.prop ∨ p ∈ (g.items m.item).thr) (s6 : (g'.items m.item).hist = (g.items m.item).hist) : Inv g' ms' := by
  obtain ⟨f1,f2,f3,f4⟩ := F
  obtain ⟨a1,a2,a3,a4⟩ := s
  have b1 := SameP.cl ⟨a1,a2,a3,a4⟩
  have b2 := SameP.at_ ⟨a1,a2,a3,a4⟩
  have b3 := SameP.claimsI ⟨a1,a2,a3,a4⟩
  have h7 := I.c5 m.prop m.item (by rw [← h]; exact f1)
  have h30 : ∀ j,¬ g.at_ m.prop j := fun j e => by have := (at_cl e).1; omega
  constructor
  all_goals (try simp only [b1,b2,b3,a1,a2,a3,a4])
  case rng => exact I.rng
  case srt => exact I.srt
  case st0 => exact I.st0
  case zero => exact I.zero
  case full => exact I.full
  case got1 => exact I.got1
  case got2 => exact I.got2
  case len => exact I.len
  case mcl => have i0 := I.mcl; have i1 := I.qcl; grind
  case hcl => have i0 := I.hcl; have i1 := I.mcl; have i2 := I.qcl; grind
  case qcl => have i0 := I.qcl; have i1 := I.mcl; grind
  case tcl => have i0 := I.tcl; have i1 := I.mcl; have i2 := I.qcl; grind
  case hver => have i0 := I.hver; have i1 := I.qcl; grind
  case vh => have i0 := I.vh; grind
  case hnd => have i0 := I.hnd; have i1 := I.ht; have i2 := I.hh; grind
  case ht => have i0 := I.ht; grind
  case hh => have i0 := I.hh; have i1 := I.qt; have i2 := I.qnd; grind
  case qt => have i0 := I.qt; have i1 := I.hh; grind
  case qnd => intro j; by_cases e : j = m.item
              · subst e; rw [s3]; exact (I.qnd _).filter _
              · rw [s1 _ e]; exact I.qnd j
  case qh => have i0 := I.qh; grind
  case c1 => have i0 := I.c1; grind
  case c2 => have i0 := I.c2; grind
  case c3 => have i0 := I.c3; grind
  case c4 => have i0 := I.c4; grind
  case c5 => have i0 := I.c5; grind
  case c7 => have i0 := I.c7; grind
  case c6 => have i0 := I.c6; grind
  case ch => have i0 := I.ch; have i1 := I.c7; grind
  case d1a => have i0 := I.d1a; grind
  case d1b => have i0 := I.d1b; grind
  case d1c => have i0 := I.d1c; grind
  case d2 => have i0 := I.d2; grind
  case d3 => have i0 := I.d3; grind
  case e0 => exact I.e0
  case e1 => exact I.e1
  case e2 =>
    intro j
    have : g'.held j = g.held j := by unfold G.held; by_cases e : j = m.item <;> simp [*]
    rw [I.e2 j,this]; by_cases e : j = m.item <;> simp [*]
  case e3 => have i0 := I.e3; have i1 := I.hver; have i2 := I.vh; grind
theorem inv_freeLast (I : Inv g ms) (s : SameP g g') (h : m.kind = 5) (h1 : (g.items m.item).hold = some m.prop) (h2 : (g.items m.item).queue.filter (· ≠ m.prop) = []) (hnew : ∀ k p j,¬ new k p j)
    (F : Flew ms ms' new m) (s1 : ∀ j,j ≠ m.item → g'.items j = g.items j) (s2 : (g'.items m.item).hold = none) (s3 : (g'.items m.item).queue = []) (s4 : (g'.items m.item).ver = (g.items m.item).ver) (s5 : ∀ p,p ∈ (g'.items m.item).thr ↔ p = m.prop ∨ p ∈ (g.items m.item).thr) (s6 : (g'.items m.item).hist = (g.items m.item).hist) : Inv g' ms' := by
  obtain ⟨f1,f2,f3,f4⟩ := F
  obtain ⟨a1,a2,a3,a4⟩ := s
  have b1 := SameP.cl ⟨a1,a2,a3,a4⟩
  have b2 := SameP.at_ ⟨a1,a2,a3,a4⟩
  have b3 := SameP.claimsI ⟨a1,a2,a3,a4⟩
  have h7 := I.c5 m.prop m.item (by rw [← h]; exact f1)
  have h30 : ∀ j,¬ g.at_ m.prop j := fun j e => by have := (at_cl e).1; omega
  have h8 : ∀ x,x ∈ (g.items m.item).queue → x = m.prop := by
    intro x hx
    by_cases e : x = m.prop
    · exact e
    · have : x ∈ (g.items m.item).queue.filter (· ≠ m.prop) := by simp [hx,e]
      rw [h2] at this; cases this
  have h9 : m.prop ∉ (g.items m.item).queue := (I.hh _ _ h1).2
  constructor
  all_goals (try simp only [b1,b2,b3,a1,a2,a3,a4])
  case rng => exact I.rng
  case srt => exact I.srt
  case st0 => exact I.st0
  case zero => exact I.zero
  case full => exact I.full
  case got1 => exact I.got1
  case got2 => exact I.got2
  case len => exact I.len
  case mcl => have i0 := I.mcl; have i1 := I.qcl; grind
  case hcl => have i0 := I.hcl; have i1 := I.mcl; have i2 := I.qcl; grind
  case qcl => have i0 := I.qcl; have i1 := I.mcl; grind
  case tcl => have i0 := I.tcl; have i1 := I.mcl; have i2 := I.qcl; grind
  case hver => have i0 := I.hver; have i1 := I.qcl; grind
  case vh => have i0 := I.vh; grind
  case hnd => have i0 := I.hnd; have i1 := I.ht; have i2 := I.hh; grind
  case ht => have i0 := I.ht; grind
  case hh => have i0 := I.hh; have i1 := I.qt; have i2 := I.qnd; grind
  case qt => have i0 := I.qt; have i1 := I.hh; grind
  case qnd => have i0 := I.qnd; grind
  case qh => have i0 := I.qh; grind
  case c1 => have i0 := I.c1; grind
  case c2 => have i0 := I.c2; grind
  case c3 => have i0 := I.c3; grind
  case c4 => have i0 := I.c4; grind
  case c5 => have i0 := I.c5; grind
  case c7 => have i0 := I.c7; grind
  case c6 => have i0 := I.c6; grind
  case ch => have i0 := I.ch; have i1 := I.c7; grind
  case d1a => have i0 := I.d1a; grind
  case d1b => have i0 := I.d1b; grind
  case d1c => have i0 := I.d1c; grind
  case d2 => have i0 := I.d2; grind
  case d3 => have i0 := I.d3; grind
  case e0 => exact I.e0
  case e1 => exact I.e1
  case e2 =>
    intro j
    rw [I.e2 j]
    by_cases e : j = m.item
    · subst e
      have : (g.props m.prop).st ≠ 2 := by omega
      simp [G.held, *]
    · simp [G.held, *]
  case e3 => have i0 := I.e3; have i1 := I.hver; have i2 := I.vh; grind
theorem inv_freeNext (I : Inv g ms) (s : SameP g g') (h : m.kind = 5) (a : Int) (l : List Int) (h1 : (g.items m.item).hold = some m.prop) (h2 : (g.items m.item).queue.filter (· ≠ m.prop) = a :: l) (hnew : ∀ k p j,new k p j ↔ k = 2 ∧ p = a ∧ j = m.item)
    (F : Flew ms ms' new m) (s1 : ∀ j,j ≠ m.item → g'.items j = g.items j) (s2 : (g'.items m.item).hold = some a) (s3 : (g'.items m.item).queue = (a :: l).filter (· ≠ a)) (s4 : (g'.items m.item).ver = (g.items m.item).ver) (s5 : ∀ p,p ∈ (g'.items m.item).thr ↔ p = m.prop ∨ p ∈ (g.items m.item).thr) (s6 : (g'.items m.item).hist = (g.items m.item).hist) : Inv g' ms' := by
  obtain ⟨f1,f2,f3,f4⟩ := F
  obtain ⟨a1,a2,a3,a4⟩ := s
  have b1 := SameP.cl ⟨a1,a2,a3,a4⟩
  have b2 := SameP.at_ ⟨a1,a2,a3,a4⟩
  have b3 := SameP.claimsI ⟨a1,a2,a3,a4⟩
  have h7 := I.c5 m.prop m.item (by rw [← h]; exact f1)
  have h30 : ∀ j,¬ g.at_ m.prop j := fun j e => by have := (at_cl e).1; omega
  have h9 : m.prop ∉ (g.items m.item).queue := (I.hh _ _ h1).2
  have h10 : ∀ x,x ∈ (g.items m.item).queue ↔ x ∈ a :: l := by
    intro x
    rw [← h2]
    simp only [List.mem_filter,decide_eq_true_eq,ne_eq]
    grind
  have h11 : (a :: l).Nodup := by rw [← h2]; exact (I.qnd _).filter _
  have h12 : ∀ x,x ∈ (g'.items m.item).queue ↔ x ∈ (g.items m.item).queue ∧ x ≠ a := by
    intro x; rw [s3,h10]; simp only [List.mem_filter,decide_eq_true_eq,ne_eq]
  have h13 : a ∈ (g.items m.item).queue := by rw [h10]; simp
  have h14 : a ≠ m.prop := fun e => h9 (e ▸ h13)
  have h15 : (g'.items m.item).queue.Nodup := by rw [s3]; exact h11.filter _
  have h16 : (g.props a).st ≠ 2 := by
    intro e
    obtain ⟨i,_,hi⟩ := I.qcl _ _ h13
    have := I.c4 a i m.item hi (by rw [I.got2 _ e]; exact cl_lt hi) (.inr e)
    have i0 := I.ht m.item a
    have i2 := I.qt m.item a h13
    grind
  clear s3 h2 h10 h11
  constructor
  all_goals (try simp only [b1,b2,b3,a1,a2,a3,a4])
  case rng => exact I.rng
  case srt => exact I.srt
  case st0 => exact I.st0
  case zero => exact I.zero
  case full => exact I.full
  case got1 => exact I.got1
  case got2 => exact I.got2
  case len => exact I.len
  case mcl => have i0 := I.mcl; have i1 := I.qcl; grind
  case hcl => have i0 := I.hcl; have i1 := I.mcl; have i2 := I.qcl; grind
  case qcl => have i0 := I.qcl; have i1 := I.mcl; grind
  case tcl => have i0 := I.tcl; have i1 := I.mcl; have i2 := I.qcl; grind
  case hver => have i0 := I.hver; have i1 := I.qcl; grind
  case vh => have i0 := I.vh; grind
  case hnd => have i0 := I.hnd; have i1 := I.ht; have i2 := I.hh; grind
  case ht => have i0 := I.ht; grind
  case hh => have i0 := I.hh; have i1 := I.qt; have i2 := I.qnd; grind
  case qt => have i0 := I.qt; have i1 := I.hh; grind
  case qnd => have i0 := I.qnd; grind
  case qh => have i0 := I.qh; grind
  case c1 => have i0 := I.c1; grind
  case c2 => have i0 := I.c2; grind
  case c3 => have i0 := I.c3; grind
  case c4 => have i0 := I.c4; grind
  case c5 => have i0 := I.c5; grind
  case c7 => have i0 := I.c7; grind
  case c6 => have i0 := I.c6; grind
  case ch => have i0 := I.ch; have i1 := I.c7; grind
  case d1a => have i0 := I.d1a; grind
  case d1b => have i0 := I.d1b; grind
  case d1c => have i0 := I.d1c; grind
  case d2 => have i0 := I.d2; grind
  case d3 => have i0 := I.d3; grind
  case e0 => exact I.e0
  case e1 => exact I.e1
  case e2 =>
    intro j
    rw [I.e2 j]
    by_cases e : j = m.item
    · subst e
      have : (g.props m.prop).st ≠ 2 := by omega
      simp [G.held, *]
    · simp [G.held, *]
  case e3 => have i0 := I.e3; have i1 := I.hver; have i2 := I.vh; grind
end
end Go.Ng
namespace Go.Ng
section
variable {g g' : G} {ms ms' new : Int → Int → Int → Prop} {m : Post} {p0 : Int}
structure SameI (g g' : G) (p0 : Int) : Prop where
  n : g'.n = g.n
  np : g'.np = g.np
  items : ∀ j,g'.items j = g.items j
  props : ∀ p,p ≠ p0 → g'.props p = g.props p
  claims : (g'.props p0).claims = (g.props p0).claims
theorem SameI.allc (h : SameI g g' p0) : ∀ p,(g'.props p).claims = (g.props p).claims := by
  intro p; by_cases e : p = p0
  · subst e; exact h.claims
  · rw [h.props p e]
theorem SameI.cl (h : SameI g g' p0) : g'.cl = g.cl := by funext p i j; simp [G.cl,h.allc]
theorem SameI.claimsI (h : SameI g g' p0) : g'.claimsI = g.claimsI := by funext p j; simp [G.claimsI,h.allc]
theorem SameI.at_ (h : SameI g g' p0) {p j : Int} (e : p ≠ p0) : g'.at_ p j ↔ g.at_ p j := by simp [G.at_,h.props p e]
theorem SameI.at0 (h : SameI g g' p0) (j : Int) : g'.at_ p0 j ↔ (g'.props p0).st = 1 ∧ g.cl p0 (g'.props p0).got j := by
  rw [show g'.at_ p0 j ↔ (g'.props p0).st = 1 ∧ g'.cl p0 (g'.props p0).got j from Iff.rfl,h.cl]
theorem inv_grantMore (I : Inv g ms) (s : SameI g g' p0) (F : Flew ms ms' new m) (c : Clm) (hp : m.prop = p0) (h : m.kind = 2) (h1 : g.at_ p0 m.item) (h2 : g.cl p0 ((g.props p0).got + 1) c.item) (hst : (g'.props p0).st = 1) (hgot : (g'.props p0).got = (g.props p0).got + 1) (hd : g'.dec = g.dec) (hnew : ∀ k p j,new k p j ↔ k = 1 ∧ p = p0 ∧ j = c.item) : Inv g' ms' := by
  have b1 := s.cl
  have b3 := s.claimsI
  have b2 : ∀ p j,p ≠ p0 → (g'.at_ p j ↔ g.at_ p j) := fun p j e => s.at_ e
  have b4 := s.at0
  have ac := s.allc
  obtain ⟨a1,a2,a3,a4,a5⟩ := s
  obtain ⟨f1,f2,f3,f4⟩ := F
  obtain ⟨q1,q2⟩ := at_cl h1
  have q3 : ∀ i j,g.cl p0 i j → i < (g.props p0).claims.length := fun i j h => cl_lt h
  have inj : ∀ i i' j,g.cl p0 i j → g.cl p0 i' j → i = i' := fun i i' j h h' => cl_inj I h h'
  have inj2 : ∀ i j j',g.cl p0 i j → g.cl p0 i j' → j = j' := fun i j j' h h' => by rw [G.cl] at h h'; rw [h] at h'; exact Option.some.inj h'
  have q4 := q3 _ _ h2
  constructor
  all_goals (try simp only [b1,b3,a1,a2,a3,ac])
  case rng => exact I.rng
  case srt => exact I.srt
  case st0 => have i0 := I.st0; grind
  case zero => have i0 := I.zero; grind
  case full => exact I.full
  case got1 => have i0 := I.got1; grind
  case got2 => have i0 := I.got2; have i1 := I.got1; grind
  case len => exact I.len
  case mcl => have i0 := I.mcl; grind
  case hcl => have i0 := I.hcl; grind
  case qcl => have i0 := I.qcl; grind
  case tcl => have i0 := I.tcl; grind
  case hver => exact I.hver
  case vh => exact I.vh
  case hnd => exact I.hnd
  case ht => exact I.ht
  case hh => exact I.hh
  case qt => exact I.qt
  case qnd => exact I.qnd
  case qh => exact I.qh
  case c1 => have i0 := I.c1; grind
  case c2 => have i0 := I.c2; have i1 := I.c1; grind
  case c3 => have i0 := I.c3; grind
  case c4 => have i0 := I.c4; have i1 := I.c3; grind
  case c5 => have i0 := I.c5; grind
  case c7 => have i0 := I.c7; grind
  case c6 => have i0 := I.c6; grind
  case ch => have i0 := I.ch; grind
  case d1a => have i0 := I.d1a; have i1 := I.hcl; grind
  case d1b => have i0 := I.d1b; have i1 := I.tcl; grind
  case d1c => have i0 := I.d1c; grind
  case d2 => have i0 := I.d2; grind
  case d3 => have i0 := I.d3; grind
  case e0 => have i0 := I.e1; have i1 := I.e0; grind
  case e1 => have i0 := I.e1; have i1 := I.e0; grind
  case e2 =>
    intro j
    have i0 := I.e2 j
    have : g'.held j = g.held j := by
      unfold G.held; rw [a3]; cases h : (g.items j).hold with
      | none => rfl
      | some q => by_cases e : q = p0 <;> grind
    rw [this,hd,i0]
  case e3 => exact I.e3
theorem inv_grantLast (I : Inv g ms) (s : SameI g g' p0) (F : Flew ms ms' new m) (hp : m.prop = p0) (h : m.kind = 2) (h1 : g.at_ p0 m.item) (h2 : (g.props p0).claims.length ≤ (g.props p0).got + 1) (hst : (g'.props p0).st = 2) (hgot : (g'.props p0).got = (g.props p0).got + 1) (hd : g'.dec = g.dec ++ [p0]) (hnew : ∀ k p j,new k p j ↔ k = 4 ∧ p = p0 ∧ ∃ i,g.cl p0 i j) : Inv g' ms' := by
  have b1 := s.cl
  have b3 := s.claimsI
  have b2 : ∀ p j,p ≠ p0 → (g'.at_ p j ↔ g.at_ p j) := fun p j e => s.at_ e
  have b4 := s.at0
  have ac := s.allc
  obtain ⟨a1,a2,a3,a4,a5⟩ := s
  obtain ⟨f1,f2,f3,f4⟩ := F
  obtain ⟨q1,q2⟩ := at_cl h1
  have q3 : ∀ i j,g.cl p0 i j → i < (g.props p0).claims.length := fun i j h => cl_lt h
  have inj : ∀ i i' j,g.cl p0 i j → g.cl p0 i' j → i = i' := fun i i' j h h' => cl_inj I h h'
  have inj2 : ∀ i j j',g.cl p0 i j → g.cl p0 i j' → j = j' := fun i j j' h h' => by rw [G.cl] at h h'; rw [h] at h'; exact Option.some.inj h'
  have q4 := I.got1 p0 (.inl q1)
  have q5 : ∀ j,p0 ∉ (g.items j).hist := fun j e => by have := I.ch _ _ e; omega
  have q6 : ∀ i j,g.cl p0 i j → (g.items j).hold = some p0 := by
    intro i j hi
    have hl := cl_lt hi
    have i0 := I.c3 p0 m.item (by rw [← h,← hp]; exact f1) (.inl q1)
    have i1 := I.c4 p0 i j hi
    by_cases e : i = (g.props p0).got
    · subst e; have := inj2 _ _ _ hi q2; grind
    · have i2 := i1 (by omega) (.inl q1)
      have := q5 j
      grind
  constructor
  all_goals (try simp only [b1,b3,a1,a2,a3,ac])
  case rng => exact I.rng
  case srt => exact I.srt
  case st0 => have i0 := I.st0; grind
  case zero => have i0 := I.zero; grind
  case full => exact I.full
  case got1 => have i0 := I.got1; grind
  case got2 => have i0 := I.got2; have i1 := I.got1; grind
  case len => exact I.len
  case mcl => have i0 := I.mcl; grind
  case hcl => have i0 := I.hcl; grind
  case qcl => have i0 := I.qcl; grind
  case tcl => have i0 := I.tcl; grind
  case hver => exact I.hver
  case vh => exact I.vh
  case hnd => exact I.hnd
  case ht => exact I.ht
  case hh => exact I.hh
  case qt => exact I.qt
  case qnd => exact I.qnd
  case qh => exact I.qh
  case c1 => have i0 := I.c1; grind
  case c2 => have i0 := I.c2; have i1 := I.c1; grind
  case c3 => have i0 := I.c3; grind
  case c4 => have i0 := I.c4; have i1 := I.c3; grind
  case c5 => have i0 := I.c5; grind
  case c7 => have i0 := I.c7; grind
  case c6 => have i0 := I.c6; grind
  case ch => have i0 := I.ch; grind
  case d1a => have i0 := I.d1a; have i1 := I.hcl; grind
  case d1b => have i0 := I.d1b; have i1 := I.tcl; grind
  case d1c => have i0 := I.d1c; grind
  case d2 => have i0 := I.d2; grind
  case d3 => have i0 := I.d3; grind
  case e0 => have i0 := I.e1 p0; have i1 := I.e0; rw [hd]; grind
  case e1 => have i0 := I.e1; intro p; rw [hd]; by_cases e : p = p0 <;> grind
  case e2 =>
    intro j
    have i0 := I.e2 j
    rw [hd,List.filter_append,i0,List.append_assoc]
    congr 1
    unfold G.held
    rw [a3]
    cases hb : g.claimsI j p0 with
    | true =>
      obtain ⟨i,hi⟩ := cl_claims hb
      have := q6 i j hi
      rw [this]
      simp [hb,hst]; omega
    | false =>
      have : ∀ q,(g.items j).hold = some q → q ≠ p0 := by
        intro q hq e
        subst e
        obtain ⟨i,_,hi⟩ := I.hcl _ _ hq
        rw [claims_cl hi] at hb
        cases hb
      cases hq : (g.items j).hold with
      | none => simp [hb]
      | some q => simp [hb,a4 q (this q hq)]
  case e3 => exact I.e3
theorem inv_refuse (I : Inv g ms) (s : SameI g g' p0) (F : Flew ms ms' new m) (hp : m.prop = p0) (h : m.kind = 3) (h1 : g.at_ p0 m.item) (hst : (g'.props p0).st = 3) (hgot : (g'.props p0).got = (g.props p0).got) (hd : g'.dec = g.dec) (hnew : ∀ k p j,new k p j ↔ k = 5 ∧ p = p0 ∧ ∃ i,i < (g.props p0).got ∧ g.cl p0 i j) : Inv g' ms' := by
  have b1 := s.cl
  have b3 := s.claimsI
  have b2 : ∀ p j,p ≠ p0 → (g'.at_ p j ↔ g.at_ p j) := fun p j e => s.at_ e
  have b4 := s.at0
  have ac := s.allc
  obtain ⟨a1,a2,a3,a4,a5⟩ := s
  obtain ⟨f1,f2,f3,f4⟩ := F
  obtain ⟨q1,q2⟩ := at_cl h1
  have q3 : ∀ i j,g.cl p0 i j → i < (g.props p0).claims.length := fun i j h => cl_lt h
  have inj : ∀ i i' j,g.cl p0 i j → g.cl p0 i' j → i = i' := fun i i' j h h' => cl_inj I h h'
  have inj2 : ∀ i j j',g.cl p0 i j → g.cl p0 i j' → j = j' := fun i j j' h h' => by rw [G.cl] at h h'; rw [h] at h'; exact Option.some.inj h'
  have q4 := I.got1 p0 (.inl q1)
  have q5 := I.c6 p0 m.item (by rw [← h,← hp]; exact f1)
  have q6 : ∀ i j,i ≤ (g.props p0).got → g.cl p0 i j → i < (g.props p0).got ∨ j = m.item := by
    intro i j hi hc
    by_cases e : i = (g.props p0).got
    · subst e; exact .inr (inj2 _ _ _ hc q2)
    · exact .inl (by omega)
  constructor
  all_goals (try simp only [b1,b3,a1,a2,a3,ac])
  case rng => exact I.rng
  case srt => exact I.srt
  case st0 => have i0 := I.st0; grind
  case zero => have i0 := I.zero; grind
  case full => exact I.full
  case got1 => have i0 := I.got1; grind
  case got2 => have i0 := I.got2; have i1 := I.got1; grind
  case len => exact I.len
  case mcl => have i0 := I.mcl; grind
  case hcl => have i0 := I.hcl; grind
  case qcl => have i0 := I.qcl; grind
  case tcl => have i0 := I.tcl; grind
  case hver => exact I.hver
  case vh => exact I.vh
  case hnd => exact I.hnd
  case ht => exact I.ht
  case hh => exact I.hh
  case qt => exact I.qt
  case qnd => exact I.qnd
  case qh => exact I.qh
  case c1 => have i0 := I.c1; grind
  case c2 => have i0 := I.c2; have i1 := I.c1; grind
  case c3 => have i0 := I.c3; grind
  case c4 => have i0 := I.c4; have i1 := I.c3; grind
  case c5 => have i0 := I.c5; grind
  case c7 => have i0 := I.c7; grind
  case c6 => have i0 := I.c6; grind
  case ch => have i0 := I.ch; grind
  case d1a => have i0 := I.d1a; have i1 := I.hcl; grind
  case d1b => have i0 := I.d1b; have i1 := I.tcl; grind
  case d1c => have i0 := I.d1c; grind
  case d2 => have i0 := I.d2; grind
  case d3 => have i0 := I.d3; grind
  case e0 => have i0 := I.e1; have i1 := I.e0; grind
  case e1 => have i0 := I.e1; have i1 := I.e0; grind
  case e2 =>
    intro j
    have i0 := I.e2 j
    have : g'.held j = g.held j := by
      unfold G.held; rw [a3]; cases h : (g.items j).hold with
      | none => rfl
      | some q => by_cases e : q = p0 <;> grind
    rw [this,hd,i0]
  case e3 => exact I.e3
theorem inv_drop (I : Inv g ms) (s : SameI g g' p0) (f2 : ∀ k p j,ms' k p j → ms k p j ∨ new k p j) (f3 : ∀ k p j,ms k p j → ms' k p j) (f4 : ∀ k p j,new k p j → ms' k p j) (h1 : (g.props p0).st = 1) (hst : (g'.props p0).st = 4) (hgot : (g'.props p0).got = (g.props p0).got) (hd : g'.dec = g.dec) (hnew : ∀ k p j,new k p j ↔ k = 5 ∧ p = p0 ∧ ∃ i,i ≤ (g.props p0).got ∧ g.cl p0 i j) : Inv g' ms' := by
  have b1 := s.cl
  have b3 := s.claimsI
  have b2 : ∀ p j,p ≠ p0 → (g'.at_ p j ↔ g.at_ p j) := fun p j e => s.at_ e
  have b4 := s.at0
  have ac := s.allc
  obtain ⟨a1,a2,a3,a4,a5⟩ := s
  have q4 := I.got1 p0 (.inl h1)
  constructor
  all_goals (try simp only [b1,b3,a1,a2,a3,ac])
  case rng => exact I.rng
  case srt => exact I.srt
  case st0 => have i0 := I.st0; grind
  case zero => have i0 := I.zero; grind
  case full => exact I.full
  case got1 => have i0 := I.got1; grind
  case got2 => have i0 := I.got2; have i1 := I.got1; grind
  case len => exact I.len
  case mcl => have i0 := I.mcl; grind
  case hcl => have i0 := I.hcl; grind
  case qcl => have i0 := I.qcl; grind
  case tcl => have i0 := I.tcl; grind
  case hver => exact I.hver
  case vh => exact I.vh
  case hnd => exact I.hnd
  case ht => exact I.ht
  case hh => exact I.hh
  case qt => exact I.qt
  case qnd => exact I.qnd
  case qh => exact I.qh
  case c1 => have i0 := I.c1; grind
  case c2 => have i0 := I.c2; have i1 := I.c1; grind
  case c3 => have i0 := I.c3; grind
  case c4 => have i0 := I.c4; have i1 := I.c3; grind
  case c5 => have i0 := I.c5; grind
  case c7 => have i0 := I.c7; grind
  case c6 => have i0 := I.c6; grind
  case ch => have i0 := I.ch; grind
  case d1a => have i0 := I.d1a; have i1 := I.hcl; grind
  case d1b => have i0 := I.d1b; have i1 := I.tcl; grind
  case d1c => have i0 := I.d1c; grind
  case d2 => have i0 := I.d2; grind
  case d3 => have i0 := I.d3; grind
  case e0 => have i0 := I.e1; have i1 := I.e0; grind
  case e1 => have i0 := I.e1; have i1 := I.e0; grind
  case e2 =>
    intro j
    have i0 := I.e2 j
    have : g'.held j = g.held j := by
      unfold G.held; rw [a3]; cases h : (g.items j).hold with
      | none => rfl
      | some q => by_cases e : q = p0 <;> grind
    rw [this,hd,i0]
  case e3 => exact I.e3
theorem inv_propose (I : Inv g ms) (l : List Clm) (c0 : Clm) (hp0 : p0 = g.np) (hl : l.length ≤ 64) (hc0 : l[0]? = some c0)
    (hit : ∀ c ∈ l,0 ≤ c.item ∧ c.item < g.n) (hs : ∀ (i i' : Nat) (j j' : Int),(l[i]?.map (·.item)) = some j → (l[i']?.map (·.item)) = some j' → i < i' → j < j')
    (n : g'.n = g.n) (np : g'.np = g.np + 1) (items : ∀ j,g'.items j = g.items j) (props : ∀ p,p ≠ p0 → g'.props p = g.props p) (hcl : (g'.props p0).claims = l) (hst : (g'.props p0).st = 1) (hgot : (g'.props p0).got = 0) (hd : g'.dec = g.dec)
    (f2 : ∀ k p j,ms' k p j → ms k p j ∨ new k p j) (f3 : ∀ k p j,ms k p j → ms' k p j) (f4 : ∀ k p j,new k p j → ms' k p j) (hnew : ∀ k p j,new k p j ↔ k = 1 ∧ p = p0 ∧ j = c0.item) : Inv g' ms' := by
  have z0 : ∀ i j,¬ g.cl p0 i j := fun i j h => by have := I.rng _ _ _ h; omega
  have z1 : (g.props p0).claims = [] := by
    cases h : (g.props p0).claims with
    | nil => rfl
    | cons c t => exact absurd (show g.cl p0 0 c.item by simp [G.cl,h]) (z0 _ _)
  have z2 := (I.zero p0).2 z1
  have z3 : g'.cl p0 0 c0.item := by simp [G.cl,hcl,hc0]
  have z4 : l ≠ [] := by rintro rfl; simp at hc0
  have z5 : ∀ p i j,p ≠ p0 → (g'.cl p i j ↔ g.cl p i j) := fun p i j e => by simp [G.cl,props p e]
  have z6 : ∀ p j,p ≠ p0 → (g'.at_ p j ↔ g.at_ p j) := fun p j e => by simp [G.at_,props p e]
  have z7 : ∀ j,g'.at_ p0 j ↔ j = c0.item := fun j => by simp [G.at_,hst,hcl,hgot,hc0,eq_comm]
  have z8 : ∀ k j,¬ ms k p0 j := fun k j h => by obtain ⟨_,_,i,_,hi⟩ := I.mcl _ _ _ h; exact z0 _ _ hi
  have z9 : ∀ j,(g.items j).hold ≠ some p0 := fun j h => by obtain ⟨i,_,hi⟩ := I.hcl _ _ h; exact z0 _ _ hi
  have z10 : ∀ j,p0 ∉ (g.items j).queue := fun j h => by obtain ⟨i,_,hi⟩ := I.qcl _ _ h; exact z0 _ _ hi
  have z11 : ∀ j,p0 ∉ (g.items j).thr := fun j h => by obtain ⟨i,_,hi⟩ := I.tcl _ _ h; exact z0 _ _ hi
  have z12 : ∀ j,p0 ∉ (g.items j).hist := fun j h => z11 j (I.ht _ _ h)
  have z13 : 0 < l.length := by cases l <;> simp_all
  constructor
  all_goals (try simp only [n,np,items])
  case rng =>
    intro p i j h
    by_cases e : p = p0
    · subst e
      simp only [G.cl,hcl,Option.map_eq_some_iff] at h
      obtain ⟨c,hc,rfl⟩ := h
      have := hit c (List.mem_of_getElem? hc)
      omega
    · have := I.rng p i j ((z5 p i j e).1 h); omega
  case srt =>
    intro p i i' j j' h h' hi
    by_cases e : p = p0
    · subst e; simp only [G.cl,hcl] at h h'; exact hs i i' j j' h h' hi
    · exact I.srt p i i' j j' ((z5 p i j e).1 h) ((z5 p i' j' e).1 h') hi
  case st0 => have i0 := I.st0; grind
  case zero => have i0 := I.zero; intro p; by_cases e : p = p0 <;> grind
  case full => have i0 := I.full; intro p h1 h2; by_cases e : p = p0
               · subst e; rw [hcl]; exact z4
               · rw [props p e]; exact i0 p h1 (by omega)
  case got1 => have i0 := I.got1; intro p; by_cases e : p = p0 <;> grind
  case got2 => have i0 := I.got2; intro p; by_cases e : p = p0 <;> grind
  case len => have i0 := I.len; intro p; by_cases e : p = p0 <;> grind
  case mcl => have i0 := I.mcl; grind
  case hcl => have i0 := I.hcl; grind
  case qcl => have i0 := I.qcl; grind
  case tcl => have i0 := I.tcl; grind
  case hver => have i0 := I.hver; grind
  case vh => exact I.vh
  case hnd => exact I.hnd
  case ht => exact I.ht
  case hh => exact I.hh
  case qt => exact I.qt
  case qnd => exact I.qnd
  case qh => exact I.qh
  case c1 => have i0 := I.c1; grind
  case c2 => have i0 := I.c2; intro p i j; by_cases e : p = p0 <;> grind
  case c3 => have i0 := I.c3; intro p j; by_cases e : p = p0 <;> grind
  case c4 => have i0 := I.c4; intro p i j; by_cases e : p = p0 <;> grind
  case c5 => have i0 := I.c5; grind
  case c7 => have i0 := I.c7; grind
  case c6 => have i0 := I.c6; grind
  case ch => have i0 := I.ch; grind
  case d1a => have i0 := I.d1a; intro p j; by_cases e : p = p0 <;> grind
  case d1b => have i0 := I.d1b; intro p j; by_cases e : p = p0 <;> grind
  case d1c => have i0 := I.d1c; intro p j; by_cases e : p = p0 <;> grind
  case d2 => have i0 := I.d2; intro p i j; by_cases e : p = p0 <;> grind
  case d3 => have i0 := I.d3; intro p i j; by_cases e : p = p0 <;> grind
  case e0 => rw [hd]; exact I.e0
  case e1 => have i0 := I.e1; rw [hd]; intro p; by_cases e : p = p0 <;> grind
  case e2 =>
    intro j
    rw [hd]
    have i0 := I.e2 j
    have h1 : g'.held j = g.held j := by
      unfold G.held; rw [items]; cases h : (g.items j).hold with
      | none => rfl
      | some q => have : q ≠ p0 := fun e => z9 j (e ▸ h); simp [props q this]
    rw [h1,← i0]
    apply List.filter_congr
    intro p hp
    have : p ≠ p0 := by rintro rfl; have := (I.e1 _).1 hp; omega
    simp only [G.claimsI,props p this]
  case e3 => have i0 := I.e3; intro j v p h; have h1 := List.mem_of_getElem? h; by_cases e : p = p0 <;> grind
end
end Go.Ng
