/- A part of the proof: texts of this session, joined. -/
import Derived.Test.YtjojbhkgdkcaoaaGreatBehOrderOwn7
import Derived.Deep.AppendLies
import Derived.ArgAppend
import Derived.OwnWalk
import Derived.Lib.SliceRun
import Derived.Test.YtjojbhkgdkcaoaaGreatWLast
import Derived.Deep.RegionHeld3
import Derived.Deep.DrawnRows
import Derived.Deep.QuietTactic
import Derived.BigQuiet
import Derived.WalkSpells
import Derived.Test.YtjojbhkgdkcaoaaGreatShort
set_option linter.unusedSimpArgs false
set_option linter.unusedVariables false
set_option maxHeartbeats 12800000
set_option maxRecDepth 100000
namespace Go.Bh
open Go Go.RowKit
theorem VAt.one {P : Nat → Prop} {w : World} : ∀ {x : VT} {v : Value},VAt P w x v → v.oneCell' = true
  | .int _,_,⟨h,_⟩ => by rw [h]; rfl
  | .bool _,_,h => by rw [show _ = _ from h]; rfl
  | .str _,_,h => by rw [show _ = _ from h]; rfl
  | .row _ _,_,⟨_,_,h,_⟩ => by rw [h]; rfl
theorem CAt.of {P : Nat → Prop} {w : World} {b : Nat} : ∀ (cs : List VT) (o : Nat),(∀ j x,cs[j]? = some x → ∃ u,w.cell? ⟨b,o + j,none⟩ = some u ∧ VAt P w x u) → CAt P w b cs o
  | [],_,_ => trivial
  | x :: xs,o,h => ⟨by simpa using h 0 x rfl,CAt.of xs (o + 1) fun j y hy => by have := h (j + 1) y (by simpa using hy); rw [show o + 1 + j = o + (j + 1) by omega]; exact this⟩
def Cs (Q : Nat → Prop) (w : World) (cs : List VT) (us : List Value) : Prop := us.length = cs.length ∧ ∀ (j : Nat) (x : VT) (u : Value),cs[j]? = some x → us[j]? = some u → VAt Q w x u
theorem Cs.keep {Q Q' : Nat → Prop} {w w' : World} {cs : List VT} {us : List Value} (h : Cs Q w cs us) (k : ∀ b o u,Q b → w.cell? ⟨b,o,none⟩ = some u → Q' b ∧ w'.cell? ⟨b,o,none⟩ = some u) (hp : ∀ b,Q b → Q' b) : Cs Q' w' cs us :=
  ⟨h.1,fun j x u h1 h2 => VAt.keep k hp x u (h.2 j x u h1 h2)⟩
theorem Cs.append {Q : Nat → Prop} {w : World} {cs cs' : List VT} {us us' : List Value} (h : Cs Q w cs us) (k : Cs Q w cs' us') : Cs Q w (cs ++ cs') (us ++ us') := by
  refine ⟨by simp [h.1,k.1],fun j x u h1 h2 => ?_⟩
  rw [List.getElem?_append] at h1 h2
  rw [h.1] at h2
  split at h1
  · rename_i hj
    rw [if_pos hj] at h2
    exact h.2 j x u h1 h2
  · rename_i hj
    rw [if_neg hj] at h2
    exact k.2 _ x u h1 h2
theorem Cs.set {Q : Nat → Prop} {w : World} {cs : List VT} {us : List Value} (h : Cs Q w cs us) (j : Nat) {x : VT} {u : Value} (hx : VAt Q w x u) : Cs Q w (cs.set j x) (us.set j u) := by
  refine ⟨by simp [h.1],fun i y z h1 h2 => ?_⟩
  rw [List.getElem?_set] at h1 h2
  rw [h.1] at h2
  split at h1
  · rename_i hj
    rw [if_pos hj] at h2
    split at h1
    · rename_i hl
      rw [if_pos hl] at h2
      injection h1 with h1; injection h2 with h2; subst h1; subst h2; exact hx
    · cases h1
  · rename_i hj
    rw [if_neg hj] at h2
    exact h.2 i y z h1 h2
def RO (base : Nat) (Q : Nat → Prop) (E sz : Nat) (w : World) (v : Value) (n : Nat) (cs : List VT) : Prop :=
  (∃ A,v = .slice A 0 0 ∧ n = 0 ∧ cs = []) ∨
  ∃ us g cap cur,v = .slice (some ⟨g,0,none⟩) n cap ∧ base ≤ g ∧ w.heap[g]? = some (.cells cur E (0,0)) ∧ n ≤ cap ∧ cap ≤ maxLen ∧ cur.size = cap * sz ∧ cur.toList.take (n * sz) = us ∧ us.length = n * sz ∧
    Cs (fun b => (Q b ∧ b ≠ g) ∧ b < w.heap.size) w cs us
def RO.row : Value → Option Nat
  | .slice (some a) _ (_ + 1) => some a.block
  | _ => none
section
variable {base : Nat} {Q : Nat → Prop} {E sz : Nat} {w : World} {v : Value} {n : Nat} {cs : List VT}
theorem RO.nil (base : Nat) (Q : Nat → Prop) (E sz : Nat) (w : World) : RO base Q E sz w (.slice none 0 0) 0 [] := .inl ⟨none,rfl,rfl,rfl⟩
theorem RO.form (h : RO base Q E sz w v n cs) : ∃ A cap,v = .slice A n cap ∧ n ≤ cap ∧ cap ≤ maxLen := by
  rcases h with ⟨A,rfl,rfl,_⟩ | ⟨us,g,cap,cur,rfl,_,_,h1,h2,_⟩
  · exact ⟨_,_,rfl,Nat.le_refl _,Nat.zero_le _⟩
  · exact ⟨_,_,rfl,h1,h2⟩
theorem RO.vat {P : Nat → Prop} (h : RO base Q E sz w v n cs) (h1 : ∀ b,Q b → P b) (h2 : ∀ b,base ≤ b → P b) : VAt P w (.row n cs) v := by
  rcases h with ⟨A,rfl,rfl,rfl⟩ | ⟨us,g,cap,cur,rfl,hg,hh,k1,k2,k3,k4,k5,k6⟩
  · exact ⟨A,0,rfl,Nat.le_refl _,Nat.zero_le _,.inl rfl⟩
  · refine ⟨_,cap,rfl,k1,k2,.inr ⟨g,0,rfl,h2 g hg,CAt.of cs 0 fun j x hx => ?_⟩⟩
    have hj := (List.getElem?_eq_some_iff.1 hx).1
    obtain ⟨u,hu⟩ : ∃ u,us[j]? = some u := ⟨_,List.getElem?_eq_getElem (by rw [k6.1]; exact hj)⟩
    refine ⟨u,?_,VAt.keep (fun b o u hb hc => ⟨h1 b hb.1.1,hc⟩) (fun b hb => h1 b hb.1.1) x u (k6.2 j x u hx hu)⟩
    rw [← k4,List.getElem?_take] at hu
    split at hu
    · rw [Nat.zero_add,cell_of_row w g j cur E (0,0) hh]; simpa using hu
    · cases hu
theorem RO.grown {w' : World} (h : RO base Q E sz w v n cs) {row : Option Nat} (hg : w.grownBy w' row) (h1 : ∀ b,row = some b → b < w.heap.size → ¬ Q b) (h2 : row = none ∨ v.ownBlock ≠ row) : RO base Q E sz w' v n cs := by
  rcases h with ⟨A,rfl,rfl,rfl⟩ | ⟨us,g,cap,cur,rfl,hb,hh,k1,k2,k3,k4,k5,k6⟩
  · exact .inl ⟨A,rfl,rfl,rfl⟩
  · have hgl := (Array.getElem?_eq_some_iff.1 hh).1
    refine .inr ⟨us,g,cap,cur,rfl,hb,(hg.block g hgl (fun e => (h2.elim (fun h2 => by rw [h2] at e; cases e) (fun h2 => h2 e)))).trans hh,k1,k2,k3,k4,k5,?_⟩
    refine k6.keep (fun b o u hb hc => ⟨⟨hb.1,Nat.lt_of_lt_of_le hb.2 hg.size⟩,hg.cell hc (fun e => h1 b e.symm hb.2 hb.1.1)⟩) (fun b hb => ⟨hb.1,Nat.lt_of_lt_of_le hb.2 hg.size⟩)
theorem RO.below {w' : World} (h : RO base Q E sz w v n cs) (hb : Below w.heap.size w w') : RO base Q E sz w' v n cs := by
  refine h.grown (row := none) ⟨hb.os,hb.tape,hb.output,hb.size,fun k hk _ => hb.block k hk⟩ (fun b e => by cases e) (.inl rfl)
theorem RO.alloc (h : RO base Q E sz w v n cs) (o : Obj) : RO base Q E sz (w.alloc o) v n cs := h.below ((Below.refl _ _).alloc (Nat.le_refl _) o)
theorem RO.mono {Q' : Nat → Prop} (h : RO base Q E sz w v n cs) (hq : ∀ b,Q b → Q' b) : RO base Q' E sz w v n cs := by
  rcases h with h | ⟨us,g,cap,cur,rfl,hb,hh,k1,k2,k3,k4,k5,k6⟩
  · exact .inl h
  · exact .inr ⟨us,g,cap,cur,rfl,hb,hh,k1,k2,k3,k4,k5,k6.keep (fun b o u hb hc => ⟨⟨⟨hq b hb.1.1,hb.1.2⟩,hb.2⟩,hc⟩) (fun b hb => ⟨⟨hq b hb.1.1,hb.1.2⟩,hb.2⟩)⟩
theorem RO.append_run {P : Program} (h : RO base Q E sz w v n cs) (hbase : base ≤ w.heap.size) (T ty : TypeId) (i : TypeInfo) (z : Value) (bytes : Nat) (hT : P.underlying T = some (.slice E)) (hi : P.info? E = some i) (hz : i.zero = some z)
    (hsize : i.size = sz) (hby : i.bytes = bytes) (hzs : z.cells.size = sz) (hsz : 0 < sz) (ad : Addr) (m c : Nat) (news : List Value) (ncs : List VT) (hl : news.length = m * sz) (hnews : ∀ j u,news[j]? = some u → w.cell? (ad.add j) = some u)
    (hn : Cs (fun b => (Q b ∧ some b ≠ RO.row v) ∧ b < w.heap.size) w ncs news) (hm : 0 < m) (h63 : n + m ≤ maxLen) (hbytes : (n + m) * bytes ≤ 140737488355328) :
    ∃ g cap w',(Builtin.append_ #[T,T] ty #[v,.slice (some ad) m c]).run P w = .ok (.slice (some ⟨g,0,none⟩) (n + m) cap) w' ∧ RO base Q E sz w' (.slice (some ⟨g,0,none⟩) (n + m) cap) (n + m) (cs ++ ncs) ∧
      w.grownBy w' (RO.row v) ∧ (RO.row v = some g ∨ w.heap.size ≤ g) := by
  have h1 : ∀ u ∈ news,u.oneCell' = true := fun u hu => by
    obtain ⟨j,hj⟩ := List.getElem?_of_mem hu
    have hjl := (List.getElem?_eq_some_iff.1 hj).1
    obtain ⟨x,hx⟩ : ∃ x,ncs[j]? = some x := ⟨_,List.getElem?_eq_getElem (by rw [← hn.1]; exact hjl)⟩
    exact (hn.2 j x u hx hj).one
  have key : ∃ us g cap w',(Builtin.append_ #[T,T] ty #[v,.slice (some ad) m c]).run P w = .ok (.slice (some ⟨g,0,none⟩) (n + m) cap) w' ∧ w'.ownsRow base E sz (.slice (some ⟨g,0,none⟩) (n + m) cap) (n + m) (us ++ news) ∧
      w.grownBy w' (RO.row v) ∧ (RO.row v = some g ∨ w.heap.size ≤ g) ∧ Cs (fun b => (Q b ∧ some b ≠ RO.row v) ∧ b < w.heap.size) w cs us := by
    rcases h with ⟨A,rfl,rfl,rfl⟩ | ⟨us,g,cap,cur,rfl,hb,hh,k1,k2,k3,k4,k5,k6⟩
    · cases A with
      | none =>
        obtain ⟨g,cap,w',hr,h2,h3,h4,h5⟩ := run_append_lies (P := P) w T ty base E i z sz bytes hT hi hz hsize hby hzs hsz (.slice none 0 0) 0 [] (World.ownsRow_nil _ _ _ _) ad m c news hl hnews h1 hm h63 hbytes hbase _ rfl
        exact ⟨[],g,cap,w',hr,h2,h3,.inr (h4.elim (fun h => by cases h) (fun h => Nat.le_of_eq h.symm)),rfl,fun j x u hx => by simp at hx⟩
      | some a =>
        obtain ⟨v',w',hr,h2,h3⟩ := run_append_arg_grows (P := P) w T ty E i z sz bytes hT hi hz hsize hby hzs hsz a 0 0 [] (by simp) (by simp) ad m c news hl hnews (by omega) h63 hbytes
        obtain ⟨g,cap,rfl,hb,hlt⟩ := h2.form (by omega)
        refine ⟨[],g,cap,w',hr,?_,h3,.inr hb,rfl,fun j x u hx => by simp at hx⟩
        rcases h2.2 with ⟨hx,_⟩ | ⟨g',cap',cur,hv,hg',rest⟩
        · cases hx
        · exact ⟨h2.1,.inr ⟨g',cap',cur,hv,Nat.le_trans hbase hg',rest⟩⟩
    · have hown : w.ownsRow base E sz (.slice (some ⟨g,0,none⟩) n cap) n us := ⟨k5,.inr ⟨g,cap,cur,rfl,hb,hh,k1,k2,k3,k4⟩⟩
      have hrow : RO.row (.slice (some ⟨g,0,none⟩) n cap) = some g ∨ n = 0 ∧ cap = 0 := by
        cases cap with
        | zero => exact .inr ⟨by omega,rfl⟩
        | succ c => exact .inl rfl
      by_cases hc : cap = 0
      · subst hc
        obtain rfl : n = 0 := by omega
        obtain rfl : us = [] := List.eq_nil_of_length_eq_zero (by simpa using k5)
        obtain ⟨v',w',hr,h2,h3⟩ := run_append_arg_grows (P := P) w T ty E i z sz bytes hT hi hz hsize hby hzs hsz ⟨g,0,none⟩ 0 0 [] (by simp) (by simp) ad m c news hl hnews (by omega) h63 hbytes
        obtain ⟨g',cap',rfl,hb',hlt⟩ := h2.form (by omega)
        refine ⟨[],g',cap',w',hr,?_,h3,.inr hb',k6.1,fun j x u hx hu => by simp at hu⟩
        rcases h2.2 with ⟨hx,_⟩ | ⟨g'',cap'',cur',hv,hg',rest⟩
        · cases hx
        · exact ⟨h2.1,.inr ⟨g'',cap'',cur',hv,Nat.le_trans hbase hg',rest⟩⟩
      · have hrw : RO.row (.slice (some ⟨g,0,none⟩) n cap) = some g := hrow.elim (fun h => h) (fun h => absurd h.2 hc)
        obtain ⟨g',cap',w',hr,h2,h3,h4,h5⟩ := run_append_lies (P := P) w T ty base E i z sz bytes hT hi hz hsize hby hzs hsz _ n us hown ad m c news hl hnews h1 hm h63 hbytes hbase _ rfl
        rw [hrw]
        exact ⟨us,g',cap',w',hr,h2,h3,h4.imp (fun h => h) (fun h => Nat.le_of_eq h.symm),k6.keep (fun b o u hb hc => ⟨⟨⟨hb.1.1,fun e => hb.1.2 (by injection e)⟩,hb.2⟩,hc⟩) (fun b hb => ⟨⟨hb.1.1,fun e => hb.1.2 (by injection e)⟩,hb.2⟩)⟩
  obtain ⟨us,g,cap,w',hr,hown,hg,hge,hcs⟩ := key
  refine ⟨g,cap,w',hr,?_,hg,hge⟩
  rcases hown.2 with ⟨hx,_⟩ | ⟨g',cap',cur,hv,hbg,hh,k1,k2,k3,k4⟩
  · cases hx
  · injection hv with hv1 _ hv2
    injection hv1 with hv1
    injection hv1 with hv1
    subst hv1
    subst hv2
    refine .inr ⟨us ++ news,g,cap,cur,rfl,hbg,hh,k1,k2,k3,k4,hown.1,?_⟩
    have hk : ∀ b o u,((Q b ∧ some b ≠ RO.row v) ∧ b < w.heap.size) → w.cell? ⟨b,o,none⟩ = some u → ((Q b ∧ b ≠ g) ∧ b < w'.heap.size) ∧ w'.cell? ⟨b,o,none⟩ = some u := fun b o u hb hc =>
      ⟨⟨⟨hb.1.1,fun e => by subst e; rcases hge with hge | hge; exact hb.1.2 hge.symm; have := hb.2; omega⟩,Nat.lt_of_lt_of_le hb.2 hg.size⟩,hg.cell hc hb.1.2⟩
    have hp : ∀ b,((Q b ∧ some b ≠ RO.row v) ∧ b < w.heap.size) → ((Q b ∧ b ≠ g) ∧ b < w'.heap.size) := fun b hb =>
      ⟨⟨hb.1.1,fun e => by subst e; rcases hge with hge | hge; exact hb.1.2 hge.symm; have := hb.2; omega⟩,Nat.lt_of_lt_of_le hb.2 hg.size⟩
    exact (hcs.keep hk hp).append (hn.keep hk hp)
end
end Go.Bh
namespace Go.Bh
open Go Go.RowKit
section
variable {P : Program} {ops : Array Oper} {Q' : Exit → Act → World → Prop} {w : World} {base : Nat} {Q : Nat → Prop} {E sz : Nat} {v : Value} {n : Nat} {cs : List VT}
theorem run_append_zero (T ty E : TypeId) (i : TypeInfo) (hT : P.underlying T = some (.slice E)) (hi : P.info? E = some i) (b : Option Addr) (n cap : Nat) (hn : n ≤ cap) (A : Option Addr) (c : Nat) :
    (Builtin.append_ #[T,T] ty #[.slice b n cap,.slice A 0 c]).run P w = .ok (.slice b n cap) w := by
  cases b <;> cases A <;> simp [Builtin.append_,run_underlying hT,sizeOf,typeInfo,hi,Builtin.lenOf,hn,Builtin.firstCells,loadCells,loadCellsFrom,storeCells]
theorem append0_list {rest : List Oper} {oi : Oper} {a : Act} (hg : oi.guard = none) (s x : Operand) (T : TypeId)
    (hop : oi.op = .call { callee := .builtin .append,args := #[s,x],argTypes := #[T,T] }) {b : Option Addr} {n cap : Nat} (hs : a.eval s = .slice b n cap) {A : Option Addr} {c : Nat} (hx : a.eval x = .slice A 0 c)
    {E : TypeId} {i : TypeInfo} (hT : P.underlying T = some (.slice E)) (hi : P.info? E = some i) (hn : n ≤ cap) (hk : wpList P ops Q' rest (a.put oi.dst (.slice b n cap)) w) : wpList P ops Q' (oi :: rest) a w :=
  wpList_plain hg fun K hK => by
    have hr := run_append_zero (P := P) (w := w) T oi.type E i hT hi b n cap hn A c
    unfold Oper.wp execOp
    simp only [hop,resolve,invoke,builtin,Sem.run_bind,Sem.run_pure,Result.andThen_ok,List.map_toArray,List.map_cons,List.map_nil,hs,hx,hr]
    exact hK _ _ hk
theorem RO.append_list {rest : List Oper} {oi : Oper} {a : Act} (hg : oi.guard = none) (s x : Operand) (T : TypeId)
    (hop : oi.op = .call { callee := .builtin .append,args := #[s,x],argTypes := #[T,T] }) (hs : a.eval s = v) {ad : Addr} {m c : Nat} (hx : a.eval x = .slice (some ad) m c)
    (h : RO base Q E sz w v n cs) (hbase : base ≤ w.heap.size) {z : Value} {bytes : Nat} (hT : P.underlying T = some (.slice E)) (hinfo : (P.info? E).map (fun i => (i.zero,i.size,i.bytes)) = some (some z,sz,bytes))
    (hzs : z.cells.size = sz) (hsz : 0 < sz) (news : List Value) (ncs : List VT) (hl : news.length = m * sz) (hnews : ∀ j u,news[j]? = some u → w.cell? (ad.add j) = some u)
    (hn : Cs (fun b => (Q b ∧ some b ≠ RO.row v) ∧ b < w.heap.size) w ncs news) (hm : 0 < m) (h63 : n + m ≤ maxLen) (hbytes : (n + m) * bytes ≤ 140737488355328)
    (hk : ∀ g cap w',RO base Q E sz w' (.slice (some ⟨g,0,none⟩) (n + m) cap) (n + m) (cs ++ ncs) → w.grownBy w' (RO.row v) → (RO.row v = some g ∨ w.heap.size ≤ g) → wpList P ops Q' rest (a.put oi.dst (.slice (some ⟨g,0,none⟩) (n + m) cap)) w') :
    wpList P ops Q' (oi :: rest) a w :=
  wpList_plain hg fun K hK => by
    obtain ⟨i,hi,hz,hsize,hby⟩ := info_parts hinfo
    obtain ⟨g,cap,w',hr,h1,h2,h3⟩ := h.append_run (P := P) hbase T oi.type i z bytes hT hi hz hsize hby hzs hsz ad m c news ncs hl hnews hn hm h63 hbytes
    unfold Oper.wp execOp
    simp only [hop,resolve,invoke,builtin,Sem.run_bind,Sem.run_pure,Result.andThen_ok,List.map_toArray,List.map_cons,List.map_nil,hs,hx,hr]
    exact hK _ _ (hk g cap w' h1 h2 h3)
theorem grown_below {w w' : World} (h : w.grownBy w' none) : Below w.heap.size w w' := ⟨h.os,h.tape,h.output,h.size,fun k hk => h.block k hk (by simp)⟩
theorem CAt.cells {P : Nat → Prop} {w : World} {b o : Nat} {cs : List VT} (h : CAt P w b cs o) : ∃ us,Cs P w cs us ∧ ∀ j u,us[j]? = some u → w.cell? ⟨b,o + j,none⟩ = some u := by
  induction cs generalizing o with
  | nil => exact ⟨[],⟨rfl,fun j x u hx => by simp at hx⟩,fun j u hu => by simp at hu⟩
  | cons x xs ih =>
    obtain ⟨⟨u,h1,h2⟩,h3⟩ := h
    obtain ⟨us,k1,k2⟩ := ih h3
    refine ⟨u :: us,⟨by simp [k1.1],fun j y z hy hz => ?_⟩,fun j z hz => ?_⟩
    · cases j with
      | zero => simp at hy hz; subst hy; subst hz; exact h2
      | succ j => exact k1.2 j y z (by simpa using hy) (by simpa using hz)
    · cases j with
      | zero => simp at hz; subst hz; exact h1
      | succ j => have := k2 j z (by simpa using hz); rw [show o + (j + 1) = o + 1 + j by omega]; exact this
theorem RO.get (h : RO base Q E sz w v n cs) {j : Nat} {x : VT} (hj : cs[j]? = some x) : ∃ g cap u,v = .slice (some ⟨g,0,none⟩) n cap ∧ base ≤ g ∧ g < w.heap.size ∧ w.cell? ⟨g,j,none⟩ = some u ∧ w.frozen? ⟨g,j,none⟩ = false ∧ VAt (fun b => (Q b ∧ b ≠ g) ∧ b < w.heap.size) w x u := by
  rcases h with ⟨A,rfl,rfl,rfl⟩ | ⟨us,g,cap,cur,rfl,hb,hh,k1,k2,k3,k4,k5,k6⟩
  · simp at hj
  · have hjl := (List.getElem?_eq_some_iff.1 hj).1
    obtain ⟨u,hu⟩ : ∃ u,us[j]? = some u := ⟨_,List.getElem?_eq_getElem (by rw [k6.1]; exact hjl)⟩
    refine ⟨g,cap,u,rfl,hb,(Array.getElem?_eq_some_iff.1 hh).1,?_,?_,k6.2 j x u hj hu⟩
    · rw [← k4,List.getElem?_take] at hu
      split at hu
      · rw [cell_of_row w g j cur E (0,0) hh]; simpa using hu
      · cases hu
    · simp [World.frozen?,hh]
theorem RO.set {g cap : Nat} (h : RO base Q E sz w (.slice (some ⟨g,0,none⟩) n cap) n cs) {j : Nat} (hj : j < cs.length) {x : VT} {u : Value} (hx : VAt (fun b => (Q b ∧ b ≠ g) ∧ b < w.heap.size) w x u) :
    RO base Q E sz (w.setCell ⟨g,j,none⟩ u) (.slice (some ⟨g,0,none⟩) n cap) n (cs.set j x) := by
  rcases h with ⟨A,h1,rfl,rfl⟩ | ⟨us,g',cap',cur,hv,hb,hh,k1,k2,k3,k4,k5,k6⟩
  · simp at hj
  · injection hv with hv1 _ hv2
    injection hv1 with hv1
    injection hv1 with hv1
    subst hv1
    subst hv2
    have hsz : (w.setCell ⟨g,j,none⟩ u).heap.size = w.heap.size := by simp [World.setCell]
    have hk : ∀ b o z,((Q b ∧ b ≠ g) ∧ b < w.heap.size) → w.cell? ⟨b,o,none⟩ = some z → ((Q b ∧ b ≠ g) ∧ b < (w.setCell ⟨g,j,none⟩ u).heap.size) ∧ (w.setCell ⟨g,j,none⟩ u).cell? ⟨b,o,none⟩ = some z := fun b o z hb hc =>
      ⟨⟨hb.1,by rw [hsz]; exact hb.2⟩,by rw [World.cell?_of_block (Below.heap_setCell w _ u b hb.1.2)]; exact hc⟩
    have hp : ∀ b,((Q b ∧ b ≠ g) ∧ b < w.heap.size) → ((Q b ∧ b ≠ g) ∧ b < (w.setCell ⟨g,j,none⟩ u).heap.size) := fun b hb => ⟨hb.1,by rw [hsz]; exact hb.2⟩
    have hjn : j < n * sz := by rw [← k5,k6.1]; exact hj
    refine .inr ⟨us.set j u,g,cap,cur.setIfInBounds j u,rfl,hb,(by simp [World.setCell,Array.getElem?_modify,hh]),k1,k2,by simpa using k3,?_,by simpa using k5,?_⟩
    · rw [← k4,Array.toList_setIfInBounds,List.take_set]
    · have := (k6.set j hx)
      exact this.keep hk hp
end
end Go.Bh
namespace Go.Proofs.YtjojbhkgdkcaoaaGreat
open Go.RowKit Go.Bh Go.Shelf Go.Proofs.YtjojbhkgdkcaoaaGreatW.PrintLast
theorem info62 : (Tryz.prog.info? 62).map (fun i => (i.zero,i.size,i.bytes)) = some (some (.agg #[.int .i64 0,.int .i64 0,.slice none 0 0]),3,40) := by kernel_rfl
theorem clone147_ok (n : Nat) (cs : List VT) (w : World) (v : Value) {P : Nat → Prop} (hP : ∀ b,P b → b < w.heap.size) (h : VAt P w (.row n cs) v) (hcs : cs.length = n * 3) (hb : n ≤ 1000000000) :
    Calls Tryz.prog 147 #[v] w fun e w' => ∃ v',e = .returned v' ∧ RO w.heap.size P 62 3 w' v' n cs ∧ Below w.heap.size w w' := by
  obtain ⟨A,cap,rfl,h1,h2,h3⟩ := h
  have he := fun W => Lib.run_eql_slice_nil (P := Tryz.prog) W 25 62 A n cap 0 0 Tryz.underlying25
  rcases Nat.eq_zero_or_pos n with rfl | hn
  · obtain rfl : cs = [] := List.eq_nil_of_length_eq_zero (by omega)
    clear h3
    cases A with
    | none =>
      go_enter Tryz.func147,Tryz.ntmps147
      go_wp2
      go_ret
      exact ⟨_,rfl,RO.nil _ _ _ _ _,Below.refl _ _⟩
    | some a =>
      obtain ⟨i0,hi,-⟩ := info_parts info62
      go_enter Tryz.func147,Tryz.ntmps147
      go_wp2_with (at_builtin; refine append0_list rfl (.tmp 5) (.tmp 6) 25 rfl (by rfl) (by rfl) Tryz.underlying25 hi (Nat.le_refl _) ?_)
      go_ret
      exact ⟨_,rfl,.inl ⟨_,rfl,rfl,rfl⟩,(Below.refl _ _).alloc (Nat.le_refl _) _⟩
  · rcases h3 with rfl | ⟨b,o,rfl,hbl,hc⟩
    · simp at hcs; omega
    · obtain ⟨us,hus,hcell⟩ := hc.cells
      have HU : Hid (Cs (fun b => (P b ∧ some b ≠ RO.row (.slice (some ⟨w.heap.size,0,none⟩) 0 0)) ∧ b < (w.alloc (.cells #[] 62)).heap.size) (w.alloc (.cells #[] 62)) cs us) :=
        Lib.hid (hus.keep (fun b o u hb hc => ⟨⟨⟨hb,by simp [RO.row]⟩,by have := hP b hb; simp; omega⟩,(World.grownBy_alloc w _ none).cell hc (by simp)⟩) (fun b hb => ⟨⟨hb,by simp [RO.row]⟩,by have := hP b hb; simp; omega⟩))
      have HC : Hid (∀ j u,us[j]? = some u → (w.alloc (.cells #[] 62)).cell? ((⟨b,o,none⟩ : Addr).add j) = some u) := Lib.hid (fun j u hu => by
        have := hcell j u hu
        rw [show (⟨b,o,none⟩ : Addr).add j = ⟨b,o + j,none⟩ by unfold Addr.add; split <;> simp_all]
        exact (World.grownBy_alloc w _ none).cell this (by simp))
      have HL := Lib.hid (show us.length = n * 3 by rw [hus.1,hcs])
      clear hus hcell hc
      go_enter Tryz.func147,Tryz.ntmps147
      go_wp2_with (at_builtin; refine RO.append_list (base := w.heap.size) (Q := P) (n:=0) (cs := []) rfl (.tmp 5) (.tmp 6) 25 rfl (by rfl) (by rfl) (.inl ⟨_,rfl,rfl,rfl⟩) (by simp) Tryz.underlying25 info62 rfl (by decide) us cs HL.out HC.out HU.out hn (by unfold maxLen; omega) (by omega) ?_; intro g cap' w1 hro hgr hge)
      go_ret
      rw [List.nil_append,Nat.zero_add] at hro
      exact ⟨_,rfl,by simpa using hro,((Below.refl _ w).alloc (Nat.le_refl _) _).trans ((grown_below hgr).mono (by simp))⟩
end Go.Proofs.YtjojbhkgdkcaoaaGreat
namespace Go.Bh
open Go Go.RowKit
inductive TmB : Tm → Prop
  | mk (k n : Int) (l : List Tm) (h : l.length ≤ 1000000000) (hl : ∀ x ∈ l,TmB x) : TmB (.mk k n l)
theorem encTs_at {l : List Tm} {m : Nat} {k n : Int} {l' : List Tm} (h : l[m]? = some (.mk k n l')) (j : Nat) (hj : j < 3) : (encTs l)[m * 3 + j]? = ([.int k,.int n,.row l'.length (encTs l')] : List VT)[j]? := by
  rw [encTs_eq,flat_at encT 3 encT_len j hj l m _ h,encT]
theorem encTs_len (l : List Tm) : (encTs l).length = l.length * 3 := by
  rw [encTs_eq]
  induction l with
  | nil => rfl
  | cons x xs ih => rw [List.flatMap_cons,List.length_append,encT_len,ih,List.length_cons,Nat.add_mul]; omega
mutual
theorem VAt.tight {P : Nat → Prop} {w : World} : ∀ (x : VT) (v : Value),VAt P w x v → VAt (fun b => P b ∧ b < w.heap.size) w x v
  | .int _,_,hx => hx
  | .bool _,_,hx => hx
  | .str _,_,hx => hx
  | .row n cs,v,⟨A,cap,h1,h2,h3,h4⟩ => ⟨A,cap,h1,h2,h3,by
    cases cs with
    | nil => exact .inl rfl
    | cons x xs =>
      rcases h4 with h | ⟨b,o,k1,kp,k3⟩
      · cases h
      · exact .inr ⟨b,o,k1,⟨kp,World.block_lt_of_cell? w _ k3.1.choose_spec.1⟩,CAt.tight b (x :: xs) o k3⟩⟩
theorem CAt.tight {P : Nat → Prop} {w : World} (b : Nat) : ∀ (cs : List VT) (o : Nat),CAt P w b cs o → CAt (fun b => P b ∧ b < w.heap.size) w b cs o
  | [],_,_ => trivial
  | x :: xs,o,⟨⟨u,h1,h2⟩,h3⟩ => ⟨⟨u,h1,VAt.tight x u h2⟩,CAt.tight b xs (o + 1) h3⟩
end
theorem set_same {α : Type} {l : List α} {j : Nat} {x : α} (h : l[j]? = some x) : l.set j x = l := by
  apply List.ext_getElem?
  intro i
  rw [List.getElem?_set]
  split
  · rename_i e; subst e; rw [if_pos (List.getElem?_eq_some_iff.1 h).1,h]
  · rfl
theorem drew_ts {Q : Nat → Prop} {w : World} {l : List Tm} {v : Value} (h : TsP Q w l v) : TsP Q w.drew l v := VAt.keep (w := w) (w' := w.drew) (fun _ _ _ h k => ⟨h,k⟩) (fun _ h => h) _ _ h
theorem grown_set (w : World) (b o : Nat) (v : Value) : w.grownBy (w.setCell ⟨b,o,none⟩ v) (some b) :=
  ⟨rfl,rfl,rfl,by simp [World.setCell],fun k _ hk => Below.heap_setCell _ _ _ _ (fun e => hk (by rw [e]))⟩
section
variable {base : Nat} {Q : Nat → Prop} {E sz : Nat} {w : World} {v : Value} {n : Nat} {cs : List VT}
theorem RO.other {w' : World} (h : RO base Q E sz w v n cs) {row : Option Nat} (hg : w.grownBy w' row) (h1 : ∀ b,row = some b → b < w.heap.size → ¬ Q b) (h2 : ∀ b,row = some b → b < base) : RO base Q E sz w' v n cs := by
  rcases h with h | ⟨us,g,cap,cur,rfl,hb,r⟩
  · exact .inl h
  · exact RO.grown (.inr ⟨us,g,cap,cur,rfl,hb,r⟩) hg h1 (.inr (fun e => by have := h2 g e.symm; omega))
theorem RO.term {A : Option Addr} {cap m : Nat} {l : List Tm} {k n' : Int} {l' : List Tm} (h : RO base Q 62 3 w (.slice A n cap) n (encTs l)) (hx : l[m]? = some (.mk k n' l')) :
    ∃ g A2 c2,A = some ⟨g,0,none⟩ ∧ base ≤ g ∧ g < w.heap.size ∧ w.cell? ⟨g,m * 3,none⟩ = some (.int .i64 k) ∧ w.cell? ⟨g,m * 3 + 1,none⟩ = some (.int .i64 n') ∧ w.cell? ⟨g,m * 3 + 2,none⟩ = some (.slice A2 l'.length c2) ∧
      w.frozen? ⟨g,m * 3,none⟩ = false ∧ w.frozen? ⟨g,m * 3 + 1,none⟩ = false ∧ w.frozen? ⟨g,m * 3 + 2,none⟩ = false ∧ TsP (fun b => (Q b ∧ b ≠ g) ∧ b < w.heap.size) w l' (.slice A2 l'.length c2) ∧ InR k ∧ InR n' := by
  obtain ⟨g,cap0,u0,hv,hbg,hgl,e0,f0,v0⟩ := h.get (encTs_at hx 0 (by decide))
  injection hv with hv1 _ hv2
  subst hv1
  subst hv2
  obtain ⟨g1,cap1,u1,hv,_,_,e1,f1,v1⟩ := h.get (encTs_at hx 1 (by decide))
  injection hv with hv1 _ hv2
  injection hv1 with hv1
  injection hv1 with hv1
  subst hv1
  obtain ⟨g2,cap2,u2,hv,_,_,e2,f2,v2⟩ := h.get (encTs_at hx 2 (by decide))
  injection hv with hv1 _ hv2
  injection hv1 with hv1
  injection hv1 with hv1
  subst hv1
  obtain ⟨rfl,i0⟩ := v0
  obtain ⟨rfl,i1⟩ := v1
  obtain ⟨A2,c2,rfl,_,_⟩ := VAt.slice v2
  exact ⟨g,A2,c2,rfl,hbg,hgl,e0,e1,e2,f0,f1,f2,v2,i0,i1⟩
theorem VAt.set {g o : Nat} {x : VT} {u y : Value} (hx : VAt (fun b => (Q b ∧ b ≠ g) ∧ b < w.heap.size) w x u) : VAt (fun b => (Q b ∧ b ≠ g) ∧ b < (w.setCell ⟨g,o,none⟩ y).heap.size) (w.setCell ⟨g,o,none⟩ y) x u := by
  have hsz : (w.setCell ⟨g,o,none⟩ y).heap.size = w.heap.size := by simp [World.setCell]
  exact VAt.keep (fun b i q hb hc => ⟨⟨hb.1,by rw [hsz]; exact hb.2⟩,by rw [World.cell?_of_block (Below.heap_setCell w _ y b hb.1.2)]; exact hc⟩) (fun b hb => ⟨hb.1,by rw [hsz]; exact hb.2⟩) _ _ hx
theorem RO.put_term {g cap j : Nat} (h : RO base Q E sz w (.slice (some ⟨g,0,none⟩) n cap) n cs) (hj : j + 2 < cs.length) {k n' : Int} {l' : List Tm} {u : Value} (hk : InR k) (hn : InR n')
    (hu : TsP (fun b => (Q b ∧ b ≠ g) ∧ b < w.heap.size) w l' u) :
    RO base Q E sz (((w.setCell ⟨g,j,none⟩ (.int .i64 k)).setCell ⟨g,j + 1,none⟩ (.int .i64 n')).setCell ⟨g,j + 2,none⟩ u) (.slice (some ⟨g,0,none⟩) n cap) n (((cs.set j (.int k)).set (j + 1) (.int n')).set (j + 2) (.row l'.length (encTs l'))) := by
  refine RO.set (RO.set (RO.set h (by omega) (x := .int k) (u := .int .i64 k) ⟨rfl,hk⟩) (by simp; omega) (x := .int n') (u := .int .i64 n') ⟨rfl,hn⟩) (by simp; omega) ?_
  exact VAt.set (VAt.set hu)
end
end Go.Bh
namespace Go.Proofs.YtjojbhkgdkcaoaaGreat
open Go.RowKit Go.Bh Go.Shelf Go.Proofs.YtjojbhkgdkcaoaaGreatW.PrintLast
theorem hB2size {w W1 w2 : World} {o o' : Obj} (h : W1 = (w.alloc o).alloc o') (hb : Below W1.heap.size W1 w2) : w.heap.size + 2 ≤ w2.heap.size := by
  have := hb.size
  rw [h] at this
  simpa using this
theorem copyTerm_ok : ∀ (t : Tm) (w : World) (u : Value) (P : Nat → Prop),(∀ b,P b → b < w.heap.size) → TsP P w t.l u → TmB t →
    Calls Tryz.prog 148 #[.agg #[.int .i64 t.k,.int .i64 t.n,u]] w fun e w' => ∃ u',e = .returned (.agg #[.int .i64 t.k,.int .i64 t.n,u']) ∧ TsP (fun b => P b ∨ w.heap.size ≤ b) w' t.l u' ∧ Below w.heap.size w w' := by
  refine Tm.ind fun k n l ih w u P hP hu hB => ?_
  dsimp only [Tm.k,Tm.n,Tm.l] at hu ⊢
  obtain ⟨hlen,hBl⟩ : l.length ≤ 1000000000 ∧ ∀ x ∈ l,TmB x := by cases hB with | mk _ _ _ h hl => exact ⟨h,hl⟩
  clear hB
  obtain ⟨A,cap,rfl,a1,a2⟩ := hu.slice
  unfold maxLen at a2
  have HP := Lib.hid hP
  have HBL := Lib.hid hBl
  have IH := Lib.hid ih
  obtain ⟨W1,hW1⟩ : ∃ y,y = (w.alloc (.cells #[.int .i64 k,.int .i64 n,.slice A l.length cap] 62)).alloc (.cells #[.int .i64 0,.int .i64 0,.slice none 0 0] 62) := ⟨_,rfl⟩
  have hz1 : W1.heap.size = w.heap.size + 2 := by rw [hW1]; simp
  have hb1 : Below w.heap.size w W1 := by rw [hW1]; exact ((Below.refl _ w).alloc (Nat.le_refl _) _).alloc (by simp) _
  have h0 : W1.heap[w.heap.size]? = some (.cells #[.int .i64 k,.int .i64 n,.slice A l.length cap] 62) := by rw [hW1]; exact (Below.heap_alloc _ _ _ (by simp)).trans (World.alloc_heap_new w _)
  have h1 : W1.heap[w.heap.size + 1]? = some (.cells #[.int .i64 0,.int .i64 0,.slice none 0 0] 62) := by rw [hW1]; have := World.alloc_heap_new (w.alloc (.cells #[.int .i64 k,.int .i64 n,.slice A l.length cap] 62)) (.cells #[.int .i64 0,.int .i64 0,.slice none 0 0] 62); simpa using this
  have HC := Lib.hid (clone147_ok l.length (encTs l) W1 (.slice A l.length cap) (P := P) (fun b hb => by have := hP b hb; omega) (VAt.keep (fun b o u hp hc => ⟨hp,(hb1.cell (p := ⟨b,o,none⟩) (hP b hp)).trans hc⟩) (fun _ h => h) _ _ hu) (encTs_len l) hlen)
  have H0 := Lib.hid h0
  have H1 := Lib.hid h1
  have HB1 := Lib.hid hb1
  clear hP hBl ih hu h0 h1 hb1
  have HW1 := Lib.hid hW1
  go_enter Tryz.func148,Tryz.ntmps148
  go_wp2_with (
    go_at_call 147
    rw [← HW1.out]
    refine HC.out.mono ?_
    rintro e w2 ⟨v',rfl,hro,hb2⟩
    obtain ⟨A',cap',rfl,b1,b2⟩ := hro.form
    have HRO := Lib.hid hro
    have HB2 := Lib.hid hb2
    have k0 := (hb2.block _ (by omega)).trans H0.out
    have k1 := (hb2.block _ (by omega)).trans H1.out
    have K1 := Lib.hid k1
    have K0 := Lib.hid k0
    have c2 : w2.cell? ⟨w.heap.size,2,none⟩ = some (.slice A l.length cap) := cell_at k0 2 rfl
    have f2 : w2.frozen? ⟨w.heap.size,2,none⟩ = false := by simp [World.frozen?,k0]
    clear hro hb2 k0 k1)
  have hsl := hB2size HW1.out HB2.out
  obtain ⟨W3,hW3⟩ : ∃ y,y = w2.setCell ⟨w.heap.size,2,none⟩ (.slice A' l.length cap') := ⟨_,rfl⟩
  have HRO3 : Hid (RO (w.heap.size + 2) (fun b => P b ∨ w.heap.size + 2 ≤ b) 62 3 W3 (.slice A' l.length cap') l.length (encTs l)) := Lib.hid (by
    have h := HRO.out
    rw [hz1] at h
    rw [hW3]
    exact (h.other (grown_set w2 _ 2 _) (fun b e _ hb => by injection e with e; have := HP.out b hb; omega) (fun b e => by injection e with e; omega)).mono (fun b h => .inl h))
  have K03 : Hid (W3.heap[w.heap.size]? = some (.cells #[.int .i64 k,.int .i64 n,.slice A' l.length cap'] 62)) := Lib.hid (by rw [hW3]; simp [World.setCell,Array.getElem?_modify,K0.out])
  have K13 : Hid (W3.heap[w.heap.size + 1]? = some (.cells #[.int .i64 0,.int .i64 0,.slice none 0 0] 62)) := Lib.hid (by rw [hW3,Below.heap_setCell _ _ _ _ (by simp)]; exact K1.out)
  have HB3 : Hid (Below w.heap.size w W3) := Lib.hid (by rw [hW3]; exact (HB1.out.trans (HB2.out.mono (by omega))).setCell (p := ⟨w.heap.size,2,none⟩) (Nat.le_refl _) _)
  have hsz3 : w.heap.size + 2 ≤ W3.heap.size := by rw [hW3]; simp [World.setCell]; exact hsl
  rw [← hW3]
  clear hW3 c2 f2 hsl HRO K0 K1 HB2 HC H0 H1 HB1 HW1
  go_loopw [11] (fun i wr => ∃ m : Nat,m ≤ l.length ∧ i = .int .i64 m ∧ Hid (RO (w.heap.size + 2) (fun b => P b ∨ w.heap.size + 2 ≤ b) 62 3 wr (.slice A' l.length cap') l.length (encTs l)) ∧ Hid (wr.heap[w.heap.size]? = some (.cells #[.int .i64 k,.int .i64 n,.slice A' l.length cap'] 62)) ∧ Hid (wr.heap[w.heap.size + 1]? = some (.cells #[.int .i64 0,.int .i64 0,.slice none 0 0] 62)) ∧ Hid (Below w.heap.size w wr) ∧ w.heap.size + 2 ≤ wr.heap.size) (fun i _ => l.length - (intOf i).toNat)
  case atStart => exact ⟨0,Nat.zero_le _,rfl,HRO3,K03,K13,HB3,hsz3⟩
  case round =>
    obtain ⟨m,hm,rfl,HRr,K0r,K1r,HBr,hszr⟩ := hrel
    by_cases hlt : m < l.length
    · obtain ⟨⟨tk,tn,tl⟩,hx⟩ : ∃ c,l[m]? = some c := ⟨_,List.getElem?_eq_getElem hlt⟩
      obtain ⟨g,A2,cc2,rfl,hbg,hgl,e0,e1,e2,f0,f1,f2,hts,ik,inn⟩ := HRr.out.term hx
      have c2 : wr.cell? ⟨w.heap.size,2,none⟩ = some (.slice (some ⟨g,0,none⟩) l.length cap') := cell_at K0r.out 2 rfl
      have i1 : (0 : Int) ≤ (m : Int) := by omega
      have i2 : (m : Int) < (l.length : Int) := by omega
      have HIH := Lib.hid (IH.out _ (List.mem_of_getElem? hx) wr.drew (.slice A2 tl.length cc2) (fun b => ((P b ∨ w.heap.size + 2 ≤ b) ∧ b ≠ g) ∧ b < wr.heap.size) (fun b hb => hb.2) (drew_ts hts) (HBL.out _ (List.mem_of_getElem? hx)))
      dsimp only [Tm.k,Tm.n,Tm.l] at HIH
      have HX := Lib.hid hx
      have HF := Lib.hid (And.intro f0 (And.intro f1 f2))
      have HI := Lib.hid (And.intro ik inn)
      clear hx hts f0 f1 f2 ik inn
      go_wp2_with fail
      refine start_ (n:=11) (S:=fun w' => w'.cell? ⟨w.heap.size,2,none⟩ = some (.slice (some ⟨g,0,none⟩) l.length cap') ∧ w'.cell? ⟨g,m * 3,none⟩ = some (.int .i64 tk) ∧ w'.cell? ⟨g,m * 3 + 1,none⟩ = some (.int .i64 tn) ∧ w'.cell? ⟨g,m * 3 + 2,none⟩ = some (.slice A2 tl.length cc2)) (ds := [10]) #[f_,f_,f_,f_,f_,f_,f_,f_,f_,f_,f_] (by kernel_rfl) rfl rfl ⟨c2,e0,e1,e2⟩ (fun hHeld => ?_)
      refine pv_ (i:=0) (N:=some 14) (v:=?_) (a':=?_) rfl rfl (by kernel_rfl) (fun _ _ _ h => h) (Or.inl ⟨by rfl,?_⟩) ?_ ?_
      rotate_left;intro w';go_simp;with_reducible rfl;rotate_left;simp only [Act.put,sA_,sB_,sC_,i64_w,i32_w];rfl
      refine pv_ (i:=2) (N:=some 16) (v:=?_) (a':=?_) rfl rfl (by kernel_rfl) (fun _ _ _ h => h) (Or.inl ⟨by rfl,?_⟩) ?_ ?_
      rotate_left;intro w';go_simp;with_reducible rfl;rotate_left;simp only [Act.put,sA_,sB_,sC_,i64_w,i32_w];rfl
      refine pv_ (i:=3) (N:=some 17) (v:=?_) (a':=?_) rfl rfl (by kernel_rfl) (fun _ _ _ h => h) (Or.inl ⟨by rfl,?_⟩) ?_ ?_
      rotate_left;intro w';go_simp;with_reducible rfl;rotate_left;simp only [Act.put,sA_,sB_,sC_,i64_w,i32_w];rfl
      refine pv_ (i:=5) (N:=some 19) (v:=?_) (a':=?_) rfl rfl (by kernel_rfl) (fun _ _ _ h => h) (Or.inl ⟨by rfl,?_⟩) ?_ ?_
      rotate_left;intro w';go_simp;with_reducible rfl;rotate_left;simp only [Act.put,sA_,sB_,sC_,i64_w,i32_w];rfl
      refine tv_ (i:=1) (N:=some 15) (v:=?_) (a':=?_) rfl rfl (by kernel_rfl) (fun _ _ _ h => h) (Or.inl ⟨by rfl,?_⟩) hHeld ?_ ?_
      rotate_left;rintro w' ⟨s0,s1,s2,s3⟩;go_simp;with_reducible rfl;rotate_left;simp only [Act.put,sA_,sB_,sC_,i64_w,i32_w];rfl
      refine tv_ (i:=4) (N:=some 18) (v:=?_) (a':=?_) rfl rfl (by kernel_rfl) (fun _ _ _ h => h) (Or.inl ⟨by rfl,?_⟩) hHeld ?_ ?_
      rotate_left;rintro w' ⟨s0,s1,s2,s3⟩;go_simp;with_reducible rfl;rotate_left;simp only [Act.put,sA_,sB_,sC_,i64_w,i32_w];rfl
      refine pv_ (i:=6) (N:=some 20) (v:=?_) (a':=?_) rfl rfl (by kernel_rfl) (fun _ _ _ h => h) (Or.inl ⟨by rfl,?_⟩) ?_ ?_
      rotate_left;intro w';go_simp;with_reducible rfl;rotate_left;simp only [Act.put,sA_,sB_,sC_,i64_w,i32_w];rfl
      refine tv_ (i:=7) (N:=some 21) (v:=?_) (a':=?_) rfl rfl (by kernel_rfl) (fun _ _ _ h => h) (Or.inl ⟨by rfl,?_⟩) hHeld ?_ ?_
      rotate_left;rintro w' ⟨s0,s1,s2,s3⟩;go_simp;with_reducible rfl;rotate_left;simp only [Act.put,sA_,sB_,sC_,i64_w,i32_w];rfl
      refine one_ (i:=8) (N:=some 22) #[t_,t_,t_,t_,t_,t_,t_,t_,t_,f_,f_] rfl rfl (by kernel_rfl) (by decide) (fun K hK => ?_)
      refine goes_ Tryz.func148 (by kernel_rfl) rfl #[.agg #[.int .i64 tk,.int .i64 tn,.slice A2 tl.length cc2]] (by rfl) rfl rfl (by simp only [List.map_toArray,List.map_cons,List.map_nil]; rfl) ?_
      refine HIH.out.mono ?_
      rintro e w5 ⟨u',rfl,hts5,hb5⟩
      obtain ⟨A5,cc5,rfl,_,_⟩ := hts5.slice
      have HT5 := Lib.hid hts5
      have HB5 := Lib.hid hb5
      have HG := Lib.hid hgl
      have y0 : w5.frozen? ⟨g,m * 3,none⟩ = false := (World.frozen?_of_block (hb5.block g hgl)).trans HF.out.1
      have y1 : w5.frozen? ⟨g,m * 3 + 1,none⟩ = false := (World.frozen?_of_block (hb5.block g hgl)).trans HF.out.2.1
      have y2 : w5.frozen? ⟨g,m * 3 + 2,none⟩ = false := (World.frozen?_of_block (hb5.block g hgl)).trans HF.out.2.2
      clear hts5
      refine ⟨_,rfl,?_⟩
      refine hK.out _ _ ⟨(Below.cellOf hb5 hHeld.1),(Below.cellOf hb5 hHeld.2.1),(Below.cellOf hb5 hHeld.2.2.1),(Below.cellOf hb5 hHeld.2.2.2)⟩ (fun hHeld => ?_)
      clear hK K
      refine norm_ (a':=?_) ?_ ?_
      rotate_left
      · show Act.put _ (some 22) _ = _
        simp only [Act.put,sA_,sB_,sC_,i64_w,i32_w]
        rfl
      refine pv_ (i:=9) (N:=some 23) (v:=?_) (a':=?_) rfl rfl (by kernel_rfl) (fun _ _ _ h => h) (Or.inl ⟨by rfl,?_⟩) ?_ ?_
      rotate_left;intro w';go_simp;with_reducible rfl;rotate_left;simp only [Act.put,sA_,sB_,sC_,i64_w,i32_w];rfl
      refine last_ (i:=10) (N:=none) #[t_,t_,t_,t_,t_,t_,t_,t_,t_,t_,t_] rfl rfl (by kernel_rfl) (by decide) (fun K hK => ?_)
      refine skip_ (w1:=?_) (by rfl) rfl ?_ ?_
      rotate_left
      · go_simp
        rfl
      refine hK.out _ _ ?_
      clear hK K
      refine done_ (by kernel_rfl) ?_
      clear hHeld y0 y1 y2 hb5
      go_wp2_with fail
      go_roundw
      case rel =>
        have hbb : Below wr.heap.size wr w5 := ⟨HB5.out.os,HB5.out.tape,HB5.out.output,HB5.out.size,HB5.out.block⟩
        have hg := HG.out
        have hsz5 := hbb.size
        have hkeep : ∀ (b : Nat) (o : Obj),b < w.heap.size + 2 → wr.heap[b]? = some o → (((w5.setCell ⟨g,m * 3,none⟩ (.int .i64 tk)).setCell ⟨g,m * 3 + 1,none⟩ (.int .i64 tn)).setCell ⟨g,m * 3 + 2,none⟩ (.slice A5 tl.length cc5)).heap[b]? = some o := fun b o hb ho => by
          rw [Below.heap_setCell _ _ _ _ (by simp; omega),Below.heap_setCell _ _ _ _ (by simp; omega),Below.heap_setCell _ _ _ _ (by simp; omega)]
          exact (hbb.block b (by omega)).trans ho
        refine ⟨m + 1,by omega,by go_num,Lib.hid ?_,Lib.hid (hkeep _ _ (by omega) K0r.out),Lib.hid (hkeep _ _ (by omega) K1r.out),Lib.hid ?_,by simp [World.setCell]; omega⟩
        · have h1 := RO.put_term (j:=m * 3) (HRr.out.below hbb) (by have := encTs_len l; omega) HI.out.1 HI.out.2 (l' := tl) (u := .slice A5 tl.length cc5)
            (VAt.keep (fun b o u hb hc => ⟨⟨hb.1.elim (fun h => h.1) (fun h => ⟨.inr (Nat.le_trans hszr h),fun e => by subst e; exact absurd hg (Nat.not_lt.2 h)⟩),hb.2⟩,hc⟩) (fun b hb => ⟨hb.1.elim (fun h => h.1) (fun h => ⟨.inr (Nat.le_trans hszr h),fun e => by subst e; exact absurd hg (Nat.not_lt.2 h)⟩),hb.2⟩) _ _ (VAt.tight _ _ HT5.out))
          rw [set_same (show (encTs l)[m * 3]? = some (.int tk) from encTs_at HX.out 0 (by decide)),set_same (show (encTs l)[m * 3 + 1]? = some (.int tn) from encTs_at HX.out 1 (by decide)),set_same (show (encTs l)[m * 3 + 2]? = some (.row tl.length (encTs tl)) from encTs_at HX.out 2 (by decide))] at h1
          exact h1
        · exact (((HBr.out.trans (hbb.mono HBr.out.size)).setCell (p := ⟨g,m * 3,none⟩) (by simp; omega) _).setCell (p := ⟨g,m * 3 + 1,none⟩) (by simp; omega) _).setCell (p := ⟨g,m * 3 + 2,none⟩) (by simp; omega) _
      case measure => simp [intOf]; omega
    · obtain rfl : m = l.length := by omega
      have k1r := K1r.out
      have g0 := cell_at K0r.out 0 rfl
      have g1 := cell_at K0r.out 1 rfl
      have g2 := cell_at K0r.out 2 rfl
      have d0 := cell_at k1r 0 rfl
      have d1 := cell_at k1r 1 rfl
      have d2 := cell_at k1r 2 rfl
      have z0 : wr.frozen? ⟨w.heap.size + 1,0,none⟩ = false := by simp [World.frozen?,k1r]
      have z1 : wr.frozen? ⟨w.heap.size + 1,1,none⟩ = false := by simp [World.frozen?,k1r]
      have z2 : wr.frozen? ⟨w.heap.size + 1,2,none⟩ = false := by simp [World.frozen?,k1r]
      clear k1r
      go_wp2_with fail
      (try simp only [Exit.inBlock,Exit.then])
      refine bodyPost_ret (results_cell_row rfl _ _ (w.heap.size + 1) 62 #[.int .i64 k,.int .i64 n,.slice A' l.length cap'] (0,0) _ rfl (by simp [World.setCell,Array.getElem?_modify,K1r.out]) Tryz.underlying62 rfl (by kernel_rfl)) rfl ?_
      refine ⟨_,rfl,?_,?_⟩
      · refine RO.vat (RO.other (RO.other (RO.other HRr.out (grown_set _ (w.heap.size + 1) _ _) ?_ ?_) (grown_set _ (w.heap.size + 1) _ _) ?_ ?_) (grown_set _ (w.heap.size + 1) _ _) ?_ ?_) ?_ ?_
        all_goals first
          | (intro b e _ hb; injection e with e; subst e; rcases hb with hb | hb; (have := HP.out _ hb; omega); omega)
          | (intro b e; injection e with e; omega)
          | (intro b hb; rcases hb with hb | hb; exact .inl hb; exact .inr (by omega))
          | (intro b hb; exact .inr (by omega))
      · exact (((HBr.out.setCell (p := ⟨w.heap.size + 1,0,none⟩) (by simp) _).setCell (p := ⟨w.heap.size + 1,1,none⟩) (by simp) _).setCell (p := ⟨w.heap.size + 1,2,none⟩) (by simp) _)
end Go.Proofs.YtjojbhkgdkcaoaaGreat
namespace Go.Bh
open Go Go.RowKit
mutual
def putT (ts : List Tm) : Tm → Tm
  | .mk k n l => if k = 1 ∧ 0 ≤ n ∧ n < ts.length then ts.getD n.toNat (.mk k n l) else .mk k (if k = 1 then wrap64 (n - ts.length) else n) (putTs ts l)
def putTs (ts : List Tm) : List Tm → List Tm
  | [] => []
  | x :: l => putT ts x :: putTs ts l
end
theorem putTs_eq (ts : List Tm) : ∀ l,putTs ts l = l.map (putT ts)
  | [] => by rw [putTs]; rfl
  | x :: l => by rw [putTs,putTs_eq ts l]; rfl
theorem inR_wrap64 (n : Int) : InR (wrap64 n) := by unfold InR wrap64; omega
theorem encTs_snoc (l : List Tm) (x : Tm) : encTs (l ++ [x]) = encTs l ++ [.int x.k,.int x.n,.row x.l.length (encTs x.l)] := by
  rw [encTs_eq,encTs_eq,List.flatMap_append]
  cases x
  simp [encT,Tm.k,Tm.n,Tm.l]
section
variable {base : Nat} {Q : Nat → Prop} {E sz : Nat} {w : World} {v : Value} {n : Nat} {cs : List VT}
theorem RO.row_lt (h : RO base Q E sz w v n cs) {b : Nat} (hb : RO.row v = some b) : base ≤ b ∧ b < w.heap.size := by
  rcases h with ⟨A,rfl,rfl,rfl⟩ | ⟨us,g,cap,cur,rfl,hg,hh,k1,k2,r⟩
  · cases A <;> cases hb
  · cases cap with
    | zero => cases hb
    | succ c => injection hb with hb; subst hb; exact ⟨hg,(Array.getElem?_eq_some_iff.1 hh).1⟩
end
theorem add_lit (b o j : Nat) : (⟨b,o,none⟩ : Addr).add j = ⟨b,o + j,none⟩ := by unfold Addr.add; split <;> simp_all
theorem news_at (w : World) (l : List Value) (t : TypeId) : ∀ j u,l[j]? = some u → (w.alloc (.cells l.toArray t)).cell? ((⟨w.heap.size,0,none⟩ : Addr).add j) = some u := fun j u hu => by
  rw [add_lit,Nat.zero_add,cell_of_row _ _ _ _ _ _ (World.alloc_heap_new w (.cells l.toArray t))]
  simpa using hu
theorem grown_below' {w w' : World} {row : Option Nat} {B : Nat} (h : w.grownBy w' row) (hB : B ≤ w.heap.size) (hr : ∀ b,row = some b → B ≤ b) : Below B w w' :=
  ⟨h.os,h.tape,h.output,h.size,fun k hk => h.block k (by omega) (fun e => by have := hr k e.symm; omega)⟩
theorem VAt.up {P : Nat → Prop} {w w' : World} {x : VT} {v : Value} (hP : ∀ b,P b → b < w.heap.size) (hb : Below w.heap.size w w') (h : VAt P w x v) : VAt P w' x v :=
  VAt.keep (fun b o u hp hc => ⟨hp,(hb.cell (p := ⟨b,o,none⟩) (hP b hp)).trans hc⟩) (fun _ h => h) _ _ h
end Go.Bh
namespace Go.Proofs.YtjojbhkgdkcaoaaGreat
open Go.RowKit Go.Bh Go.Shelf Go.Proofs.YtjojbhkgdkcaoaaGreatW.PrintLast
theorem put_ok (ts : List Tm) : ∀ (t : Tm) (w : World) (u tv : Value) (P : Nat → Prop),(∀ b,P b → b < w.heap.size) → TsP P w t.l u → TmB t → InR t.k → InR t.n → TsP P w ts tv → (∀ x ∈ ts,TmB x) →
    Calls Tryz.prog 85 #[.agg #[.int .i64 t.k,.int .i64 t.n,u],tv] w fun e w' => ∃ u',e = .returned (.agg #[.int .i64 (putT ts t).k,.int .i64 (putT ts t).n,u']) ∧ TsP (fun b => P b ∨ w.heap.size ≤ b) w' (putT ts t).l u' ∧ InR (putT ts t).k ∧ InR (putT ts t).n ∧ Below w.heap.size w w' := by
  refine Tm.ind fun k n l ih w u tv P hP hu hB hik hin htv htB => ?_
  dsimp only [Tm.k,Tm.n,Tm.l] at hu hik hin ⊢
  obtain ⟨hlen,hBl⟩ : l.length ≤ 1000000000 ∧ ∀ x ∈ l,TmB x := by cases hB with | mk _ _ _ h hl => exact ⟨h,hl⟩
  clear hB
  obtain ⟨A,cap,rfl,a1,a2⟩ := hu.slice
  obtain ⟨T,tcap,rfl,t1,t2⟩ := htv.slice
  unfold maxLen at a2 t2
  have HP := Lib.hid hP
  have HBL := Lib.hid hBl
  have IH := Lib.hid ih
  have HU := Lib.hid hu
  have HT := Lib.hid htv
  have HTB := Lib.hid htB
  obtain ⟨W1,hW1⟩ : ∃ y,y = (w.alloc (.cells #[.int .i64 k,.int .i64 n,.slice A l.length cap] 62)).alloc (.cells #[.int .i64 0,.int .i64 0,.slice none 0 0] 62) := ⟨_,rfl⟩
  have hz1 : W1.heap.size = w.heap.size + 2 := by rw [hW1]; simp
  have hb1 : Below w.heap.size w W1 := by rw [hW1]; exact ((Below.refl _ w).alloc (Nat.le_refl _) _).alloc (by simp) _
  have h0 : W1.heap[w.heap.size]? = some (.cells #[.int .i64 k,.int .i64 n,.slice A l.length cap] 62) := by rw [hW1]; exact (Below.heap_alloc _ _ _ (by simp)).trans (World.alloc_heap_new w _)
  have h1 : W1.heap[w.heap.size + 1]? = some (.cells #[.int .i64 0,.int .i64 0,.slice none 0 0] 62) := by rw [hW1]; have := World.alloc_heap_new (w.alloc (.cells #[.int .i64 k,.int .i64 n,.slice A l.length cap] 62)) (.cells #[.int .i64 0,.int .i64 0,.slice none 0 0] 62); simpa using this
  have H0 := Lib.hid h0
  have H1 := Lib.hid h1
  have HB1 := Lib.hid hb1
  have HIK := Lib.hid hik
  have HIN := Lib.hid hin
  unfold InR at hin
  clear hP hBl ih hu htv htB hb1 hik h0 h1
  obtain ⟨pn,hpn⟩ : ∃ y,y = (if k = 1 then wrap64 (n - ts.length) else n) := ⟨_,rfl⟩
  have HPN := Lib.hid hpn
  clear hpn
  obtain ⟨rk,rn,rl,hr⟩ : ∃ a b c,putT ts (.mk k n l) = .mk a b c := by cases putT ts (.mk k n l); exact ⟨_,_,_,rfl⟩
  rw [hr]
  dsimp only [Tm.k,Tm.n,Tm.l]
  have HR := Lib.hid hr
  clear hr
  go_enter Tryz.func85,Tryz.ntmps85
  go_upto_region 1 with fail
  rw [← hW1]
  clear hW1
  have g0 := cell_at H0.out 0 rfl
  have g1 := cell_at H0.out 1 rfl
  have g2 := cell_at H0.out 2 rfl
  have gf : W1.frozen? ⟨w.heap.size,1,none⟩ = false := by simp [World.frozen?,H0.out]
  have r0 := cell_at H1.out 0 rfl
  have r1 := cell_at H1.out 1 rfl
  have r2 := cell_at H1.out 2 rfl
  have z0 : W1.frozen? ⟨w.heap.size + 1,0,none⟩ = false := by simp [World.frozen?,H1.out]
  have z1 : W1.frozen? ⟨w.heap.size + 1,1,none⟩ = false := by simp [World.frozen?,H1.out]
  have z2 : W1.frozen? ⟨w.heap.size + 1,2,none⟩ = false := by simp [World.frozen?,H1.out]
  go_upto_if 10 with fail
  go_cut [] (fun wx => Hid (¬ (k = 1 ∧ 0 ≤ n ∧ n < ts.length)) ∧ Hid (wx.heap[w.heap.size]? = some (.cells #[.int .i64 k,.int .i64 pn,.slice A l.length cap] 62)) ∧ Hid (wx.heap[w.heap.size + 1]? = some (.cells #[.int .i64 0,.int .i64 0,.slice none 0 0] 62)) ∧ Hid (Below w.heap.size w wx) ∧ wx.heap.size = w.heap.size + 2)
  case first =>
    by_cases hk : k = 1
    · subst hk
      have HPV : Hid (pn = wrap64 (n - ts.length)) := Lib.hid (by have := HPN.out; rwa [if_pos rfl] at this)
      clear HPN
      by_cases hn0 : 0 ≤ n
      · by_cases hnl : n < ts.length
        · obtain ⟨m,rfl⟩ : ∃ m : Nat,n = (m : Int) := ⟨n.toNat,by omega⟩
          have hml : m < ts.length := by omega
          obtain ⟨⟨tk,tn,tl⟩,hx⟩ : ∃ c,ts[m]? = some c := ⟨_,List.getElem?_eq_getElem hml⟩
          obtain ⟨b,o,A',cap',rfl,hp,e0,e1,e2,hl,_,_,ik,inn⟩ := HT.out.get hx
          have e0 := (HB1.out.cell (p := ⟨b,_,none⟩) (HP.out b hp)).trans e0
          have e1 := (HB1.out.cell (p := ⟨b,_,none⟩) (HP.out b hp)).trans e1
          have e2 := (HB1.out.cell (p := ⟨b,_,none⟩) (HP.out b hp)).trans e2
          have HC := Lib.hid (copyTerm_ok (.mk tk tn tl) W1 (.slice A' tl.length cap') P (fun b hb => by have := HP.out b hb; omega) (VAt.up HP.out HB1.out hl) (HTB.out _ (List.mem_of_getElem? hx)))
          dsimp only [Tm.k,Tm.n,Tm.l] at HC
          have HX := Lib.hid hx
          have HI : Hid (InR tk ∧ InR tn) := Lib.hid ⟨⟨ik,inn.1⟩,inn.2.1,inn.2.2⟩
          clear hx hl ik inn
          go_wp2_with (
            go_at_call 148
            refine HC.out.mono ?_
            rintro e w5 ⟨u',rfl,hts5,hb5⟩
            obtain ⟨A5,cc5,rfl,_,_⟩ := hts5.slice
            have HT5 := Lib.hid hts5
            have HB5 := Lib.hid hb5
            have k1 := (hb5.block (w.heap.size + 1) (by omega)).trans H1.out
            have K1 := Lib.hid k1
            have r0 := cell_at k1 0 rfl
            have r1 := cell_at k1 1 rfl
            have r2 := cell_at k1 2 rfl
            have z0 : w5.frozen? ⟨w.heap.size + 1,0,none⟩ = false := by simp [World.frozen?,k1]
            have z1 : w5.frozen? ⟨w.heap.size + 1,1,none⟩ = false := by simp [World.frozen?,k1]
            have z2 : w5.frozen? ⟨w.heap.size + 1,2,none⟩ = false := by simp [World.frozen?,k1]
            clear hts5 hb5 k1)
          (try simp only [Exit.inBlock,Exit.then])
          refine bodyPost_ret (results_cell_row rfl _ _ (w.heap.size + 1) 62 #[.int .i64 tk,.int .i64 tn,.slice A5 tl.length cc5] (0,0) _ rfl (by simp [World.setCell,Array.getElem?_modify,K1.out]) Tryz.underlying62 rfl (by kernel_rfl)) rfl ?_
          obtain ⟨rfl,rfl,rfl⟩ : rk = tk ∧ rn = tn ∧ rl = tl := by
            have h := HR.out
            rw [putT,if_pos ⟨rfl,by omega,by omega⟩] at h
            have h2 : ts.getD ((m : Int)).toNat (.mk 1 m l) = .mk tk tn tl := by rw [Int.toNat_natCast,List.getD_eq_getElem?_getD,HX.out]; rfl
            rw [h2] at h
            injection h with h3 h4 h5
            exact ⟨h3.symm,h4.symm,h5.symm⟩
          refine ⟨_,rfl,?_,HI.out.1,HI.out.2,?_⟩
          · refine VAt.keep (fun b o u hb hc => ⟨hb.imp (fun h => h) (fun h => by omega),?_⟩) (fun b hb => hb.imp (fun h => h) (fun h => by omega)) _ _ HT5.out
            have hne : some b ≠ some (w.heap.size + 1) := fun e => by injection e with e; rcases hb with h | h; (have := HP.out b h; omega); omega
            exact (grown_set _ _ 2 _).cell ((grown_set _ _ 1 _).cell ((grown_set w5 _ 0 _).cell hc hne) hne) hne
          · exact ((((HB1.out.trans (HB5.out.mono (by omega))).setCell (p := ⟨w.heap.size + 1,0,none⟩) (by simp) _).setCell (p := ⟨w.heap.size + 1,1,none⟩) (by simp) _).setCell (p := ⟨w.heap.size + 1,2,none⟩) (by simp) _)
        · have hnl : (ts.length : Int) ≤ n := by omega
          go_wp2_with fail
          go_meet
          case rel =>
            refine ⟨Lib.hid (by omega),Lib.hid ?_,Lib.hid ?_,Lib.hid ?_,?_⟩
            · first
              | (rw [HPV.out,IntWalk.wrap64_in _ (by omega)]; simp [World.setCell,Array.getElem?_modify,H0.out]; done)
              | (rw [HPV.out]; simp [World.setCell,Array.getElem?_modify,H0.out]; done)
            · rw [Below.heap_setCell _ _ _ _ (by simp)]; exact H1.out
            · exact HB1.out.setCell (p := ⟨w.heap.size,1,none⟩) (Nat.le_refl _) _
            · simp [World.setCell]; exact hz1
      · have hn0 : n < 0 := by omega
        go_wp2_with fail
        go_meet
        case rel =>
          refine ⟨Lib.hid (by omega),Lib.hid ?_,Lib.hid ?_,Lib.hid ?_,?_⟩
          · first
            | (rw [HPV.out,IntWalk.wrap64_in _ (by omega)]; simp [World.setCell,Array.getElem?_modify,H0.out]; done)
            | (rw [HPV.out]; simp [World.setCell,Array.getElem?_modify,H0.out]; done)
          · rw [Below.heap_setCell _ _ _ _ (by simp)]; exact H1.out
          · exact HB1.out.setCell (p := ⟨w.heap.size,1,none⟩) (Nat.le_refl _) _
          · simp [World.setCell]; exact hz1
    · have hk' : (k == 1) = false := by simpa using hk
      go_wp2_with fail
      go_meet
      case rel => exact ⟨Lib.hid (fun h => hk h.1),Lib.hid (by have := HPN.out; rw [if_neg hk] at this; rw [this]; exact H0.out),H1,HB1,hz1⟩
  case rest =>
  obtain ⟨HN,K0,K1,HBc,hszc⟩ := hcut
  clear H0 H1 HB1 g0 g1 g2 gf r0 r1 r2 z0 z1 z2
  have g2 := cell_at K0.out 2 rfl
  go_wp2_with fail
  go_loopw [36,5] (fun i s wr => ∃ m : Nat,m ≤ l.length ∧ i = .int .i64 m ∧ ∃ (A6 : Option Addr) (c6 : Nat),s = .slice A6 m c6 ∧ Hid (RO (w.heap.size + 2) (fun b => P b ∨ w.heap.size + 2 ≤ b) 62 3 wr (.slice A6 m c6) m (encTs ((l.take m).map (putT ts)))) ∧ Hid (wr.heap[w.heap.size]? = some (.cells #[.int .i64 k,.int .i64 pn,.slice A l.length cap] 62)) ∧ Hid (wr.heap[w.heap.size + 1]? = some (.cells #[.int .i64 0,.int .i64 0,.slice none 0 0] 62)) ∧ Hid (Below w.heap.size w wr) ∧ w.heap.size + 2 ≤ wr.heap.size) (fun i _ _ => l.length - (intOf i).toNat)
  case atStart => exact ⟨0,Nat.zero_le _,rfl,none,0,rfl,Lib.hid (RO.nil _ _ _ _ _),K0,K1,HBc,Nat.le_of_eq hszc.symm⟩
  case round =>
    obtain ⟨m,hm,rfl,A6,c6,rfl,HRr,K0r,K1r,HBr,hszr⟩ := hrel
    by_cases hlt : m < l.length
    · obtain ⟨⟨tk,tn,tl⟩,hx⟩ : ∃ c,l[m]? = some c := ⟨_,List.getElem?_eq_getElem hlt⟩
      obtain ⟨b,o,A2,cc2,rfl,hp,e0,e1,e2,hl,_,_,ik1,ik2,in1,in2⟩ := HU.out.get hx
      have e0 := (HBr.out.cell (p := ⟨b,_,none⟩) (HP.out b hp)).trans e0
      have e1 := (HBr.out.cell (p := ⟨b,_,none⟩) (HP.out b hp)).trans e1
      have e2 := (HBr.out.cell (p := ⟨b,_,none⟩) (HP.out b hp)).trans e2
      have i1 : (0 : Int) ≤ (m : Int) := by omega
      have i2 : (m : Int) < (l.length : Int) := by omega
      have HBa : Hid (Below w.heap.size w (wr.alloc (.cells #[.int .i64 tk,.int .i64 tn,.slice A2 tl.length cc2] 62))) := Lib.hid (HBr.out.alloc HBr.out.size _)
      have HIH := Lib.hid (IH.out _ (List.mem_of_getElem? hx) (wr.alloc (.cells #[.int .i64 tk,.int .i64 tn,.slice A2 tl.length cc2] 62)) (.slice A2 tl.length cc2) (.slice T ts.length tcap) P (fun b hb => by have := HP.out b hb; simp; omega) (VAt.up HP.out HBa.out hl) (HBL.out _ (List.mem_of_getElem? hx)) ⟨ik1,ik2⟩ ⟨in1,in2⟩ (VAt.up HP.out HBa.out HT.out) HTB.out)
      dsimp only [Tm.k,Tm.n,Tm.l] at HIH
      obtain ⟨px,hpx⟩ : ∃ y,y = putT ts (.mk tk tn tl) := ⟨_,rfl⟩
      rw [← hpx] at HIH
      have HPX := Lib.hid hpx
      have HX := Lib.hid hx
      clear hx hl hp hpx ik1 ik2 in1 in2
      go_wp2_with (
        first
        | (go_at_call 85
           refine HIH.out.mono ?_
           rintro e w5 ⟨u',rfl,hts5,hk5,hn5,hb5⟩
           obtain ⟨A5,cc5,rfl,_,_⟩ := hts5.slice
           have HB5 : Hid (Below wr.heap.size wr w5) := Lib.hid (((Below.refl _ wr).alloc (Nat.le_refl _) _).trans (hb5.mono (by simp)))
           have HRO5 := Lib.hid ((HRr.out.below HB5.out).alloc (.cells #[.int .i64 px.k,.int .i64 px.n,.slice A5 px.l.length cc5] 62))
           have HCS : Hid (Cs (fun b => ((P b ∨ w.heap.size + 2 ≤ b) ∧ some b ≠ RO.row (.slice A6 m c6)) ∧ b < (w5.alloc (.cells #[.int .i64 px.k,.int .i64 px.n,.slice A5 px.l.length cc5] 62)).heap.size) (w5.alloc (.cells #[.int .i64 px.k,.int .i64 px.n,.slice A5 px.l.length cc5] 62)) [.int px.k,.int px.n,.row px.l.length (encTs px.l)] [.int .i64 px.k,.int .i64 px.n,.slice A5 px.l.length cc5]) := Lib.hid (by
             have hu5 := VAt.tight _ _ hts5
             have hrl := fun b h => RO.row_lt HRr.out (b := b) h
             have hq : ∀ b,((P b ∨ (wr.alloc (.cells #[.int .i64 tk,.int .i64 tn,.slice A2 tl.length cc2] 62)).heap.size ≤ b) ∧ b < w5.heap.size) → (((P b ∨ w.heap.size + 2 ≤ b) ∧ some b ≠ RO.row (.slice A6 m c6)) ∧ b < (w5.alloc (.cells #[.int .i64 px.k,.int .i64 px.n,.slice A5 px.l.length cc5] 62)).heap.size) := fun b hb => by
               refine ⟨⟨hb.1.imp (fun h => h) (fun h => by simp at h; omega),fun e => ?_⟩,by have := hb.2; simp; omega⟩
               have h1 := hrl b e.symm
               rcases hb.1 with h | h
               · have := HP.out b h; omega
               · simp at h; omega
             refine ⟨rfl,fun j x u hx hu => ?_⟩
             match j,hx,hu with
             | 0,hx,hu => simp at hx hu; subst hx; subst hu; exact ⟨rfl,hk5⟩
             | 1,hx,hu => simp at hx hu; subst hx; subst hu; exact ⟨rfl,hn5⟩
             | 2,hx,hu => simp at hx hu; subst hx; subst hu; exact VAt.keep (fun b o u hb hc => ⟨hq b hb,(World.grownBy_alloc w5 _ none).cell hc (by simp)⟩) hq _ _ hu5
             | (j + 3),hx,hu => simp at hx)
           clear hts5 hb5 hk5 hn5)
        | (at_builtin
           refine RO.append_list (base := w.heap.size + 2) (Q := fun b => P b ∨ w.heap.size + 2 ≤ b) (n:=m) (m := 1) (cs := encTs ((l.take m).map (putT ts))) rfl (.tmp 40) (.tmp 44) 25 rfl (by rfl) (by rfl) HRO5.out (by have := HB5.out.size; simp; omega) Tryz.underlying25 info62 rfl (by decide) [.int .i64 px.k,.int .i64 px.n,.slice A5 px.l.length cc5] [.int px.k,.int px.n,.row px.l.length (encTs px.l)] rfl (news_at _ _ _) HCS.out (by decide) (by unfold maxLen; omega) (by omega) ?_
           intro g cap6 w6 hro6 hgr6 hge6
           have HRO6 := Lib.hid hro6
           have HGR6 := Lib.hid hgr6
           clear hro6 hgr6 hge6))
      go_roundw
      case rel =>
        have hs5 := HB5.out.size
        have hrl := fun b h => RO.row_lt HRr.out (b := b) h
        have hg := HGR6.out
        have hkeep : ∀ (b : Nat) (o : Obj),b < w.heap.size + 2 → wr.heap[b]? = some o → w6.heap[b]? = some o := fun b o hb ho =>
          (hg.block b (by simp; omega) (fun e => by have := (hrl b e.symm).1; omega)).trans ((Below.heap_alloc _ _ _ (by omega)).trans ((HB5.out.block b (by omega)).trans ho))
        refine ⟨m + 1,by omega,by go_num,_,_,rfl,Lib.hid ?_,Lib.hid (hkeep _ _ (by omega) K0r.out),Lib.hid (hkeep _ _ (by omega) K1r.out),Lib.hid ?_,by have := hg.size; simp at this; omega⟩
        · rw [take_snoc HX.out,List.map_append,List.map_cons,List.map_nil,encTs_snoc,← HPX.out]
          exact HRO6.out
        · exact (HBr.out.trans (HB5.out.mono HBr.out.size)).trans (((Below.refl _ w5).alloc (by omega) _).trans (grown_below' hg (by simp; omega) (fun b e => by have := (hrl b e).1; omega)))
      case measure => simp [intOf]; omega
    · obtain rfl : m = l.length := by omega
      have k1r := K1r.out
      have k0r := K0r.out
      have g0 := cell_at k0r 0 rfl
      have g1 := cell_at k0r 1 rfl
      have g2 := cell_at k0r 2 rfl
      have f2 : wr.frozen? ⟨w.heap.size,2,none⟩ = false := by simp [World.frozen?,k0r]
      have d0 := cell_at k1r 0 rfl
      have d1 := cell_at k1r 1 rfl
      have d2 := cell_at k1r 2 rfl
      have z0 : wr.frozen? ⟨w.heap.size + 1,0,none⟩ = false := by simp [World.frozen?,k1r]
      have z1 : wr.frozen? ⟨w.heap.size + 1,1,none⟩ = false := by simp [World.frozen?,k1r]
      have z2 : wr.frozen? ⟨w.heap.size + 1,2,none⟩ = false := by simp [World.frozen?,k1r]
      clear k1r k0r
      go_wp2_with fail
      (try simp only [Exit.inBlock,Exit.then])
      refine bodyPost_ret (results_cell_row rfl _ _ (w.heap.size + 1) 62 #[.int .i64 k,.int .i64 pn,.slice A6 l.length c6] (0,0) _ rfl (by simp [World.setCell,Array.getElem?_modify,K1r.out]) Tryz.underlying62 rfl (by kernel_rfl)) rfl ?_
      obtain ⟨rfl,rfl,rfl⟩ : rk = k ∧ rn = pn ∧ rl = l.map (putT ts) := by
        have h := HR.out
        rw [putT,if_neg HN.out,putTs_eq] at h
        injection h with h3 h4 h5
        exact ⟨h3.symm,by rw [HPN.out,h4],h5.symm⟩
      refine ⟨_,rfl,?_,HIK.out,?_,?_⟩
      · have h1 := RO.other (RO.other (RO.other (RO.other HRr.out (grown_set wr w.heap.size 2 (.slice A6 l.length c6)) ?_ ?_) (grown_set _ (w.heap.size + 1) 0 (.int .i64 rk)) ?_ ?_) (grown_set _ (w.heap.size + 1) 1 (.int .i64 rn)) ?_ ?_) (grown_set _ (w.heap.size + 1) 2 (.slice A6 l.length c6)) ?_ ?_
        · have h2 := RO.vat (P := fun b => P b ∨ w.heap.size ≤ b) h1 (fun b hb => hb.imp (fun h => h) (fun h => by omega)) (fun b hb => .inr (by omega))
          rw [List.take_length] at h2
          show VAt _ _ (.row (l.map (putT ts)).length (encTs (l.map (putT ts)))) _
          rw [List.length_map]
          exact h2
        all_goals first
          | (intro b e _ hb; injection e with e; subst e; rcases hb with hb | hb; (have := HP.out _ hb; omega); omega)
          | (intro b e; injection e with e; omega)
      · rw [HPN.out]
        split
        · exact inR_wrap64 _
        · exact HIN.out
      · exact ((((HBr.out.setCell (p := ⟨w.heap.size,2,none⟩) (Nat.le_refl _) _).setCell (p := ⟨w.heap.size + 1,0,none⟩) (by simp) _).setCell (p := ⟨w.heap.size + 1,1,none⟩) (by simp) _).setCell (p := ⟨w.heap.size + 1,2,none⟩) (by simp) _)
end Go.Proofs.YtjojbhkgdkcaoaaGreat
namespace Go.Proofs.YtjojbhkgdkcaoaaGreat
open Go.RowKit Go.Bh Go.Shelf Go.Proofs.YtjojbhkgdkcaoaaGreatW.PrintLast
theorem below_drewN {B : Nat} {a w : World} (h : Below B a w) (n : Nat) : Below B a (w.drewN n) := ⟨h.os,h.tape,h.output,h.size,h.block⟩
structure Ex where
  ends : Bool
  l : List Int
def fitsB (a b : Ex) : Bool := !a.ends || (b.ends && a.l == b.l)
end Go.Proofs.YtjojbhkgdkcaoaaGreat
namespace Go.Bh
def cmpI (x y : Int) : Int := if x < y then -1 else if y < x then 1 else 0
def lexC {α : Type} (c : α → α → Int) : List α → List α → Int
  | [],[] => 0
  | [],_ :: _ => -1
  | _ :: _,[] => 1
  | x :: a,y :: b => if c x y = 0 then lexC c a b else c x y
theorem lexC_step {α : Type} {c : α → α → Int} {a b : List α} {n : Nat} {x y : α} (hx : a[n]? = some x) (hy : b[n]? = some y) : lexC c (a.drop n) (b.drop n) = if c x y = 0 then lexC c (a.drop (n + 1)) (b.drop (n + 1)) else c x y := by
  obtain ⟨h1,rfl⟩ := List.getElem?_eq_some_iff.1 hx
  obtain ⟨h2,rfl⟩ := List.getElem?_eq_some_iff.1 hy
  rw [List.drop_eq_getElem_cons h1,List.drop_eq_getElem_cons h2,lexC]
theorem lexC_more {α : Type} {c : α → α → Int} {a b : List α} {n : Nat} (h1 : n < a.length) (h2 : b.length ≤ n) : lexC c (a.drop n) (b.drop n) = 1 := by
  rw [List.drop_eq_getElem_cons h1,List.drop_eq_nil_of_le h2,lexC]
theorem lexC_end {α : Type} {c : α → α → Int} {a b : List α} (h : a.length ≤ b.length) : lexC c (a.drop a.length) (b.drop a.length) = if a.length < b.length then -1 else 0 := by
  rw [List.drop_eq_nil_of_le (Nat.le_refl _)]
  split
  · rename_i h2
    rw [List.drop_eq_getElem_cons h2,lexC]
  · rw [List.drop_eq_nil_of_le (by omega),lexC]
def orI : List Int → Int
  | [] => 0
  | x :: l => if x = 0 then orI l else x
theorem orI_step {l : List Int} {n : Nat} {x : Int} (hx : l[n]? = some x) : orI (l.drop n) = if x = 0 then orI (l.drop (n + 1)) else x := by
  obtain ⟨h1,rfl⟩ := List.getElem?_eq_some_iff.1 hx
  rw [List.drop_eq_getElem_cons h1,orI]
end Go.Bh
namespace Go.Proofs.YtjojbhkgdkcaoaaGreat
open Go.RowKit Go.Bh Go.Shelf Go.Proofs.YtjojbhkgdkcaoaaGreatW.PrintLast
theorem isNaN_ok (x : Int) (w : World) : Calls Tryz.prog 176 #[.int .i64 x] w fun e w' => e = .returned (.bool false) ∧ w' = w := by
  go_enter Tryz.func176,Tryz.ntmps176
  go_wp2_with fail
  go_ret
  exact ⟨by simp,rfl⟩
theorem cmpI_ok (x y : Int) (w : World) : Calls Tryz.prog 114 #[.int .i64 x,.int .i64 y] w fun e w' => e = .returned (.int .i64 (cmpI x y)) ∧ w' = w := by
  rcases Int.lt_trichotomy x y with h | rfl | h
  · go_enter Tryz.func114,Tryz.ntmps114
    go_wp2_with (
      go_at_call 176
      refine (isNaN_ok _ _).mono ?_
      rintro e w' ⟨rfl,rfl⟩)
    go_ret
    exact ⟨by simp [cmpI,h],rfl⟩
  · go_enter Tryz.func114,Tryz.ntmps114
    go_wp2_with (
      go_at_call 176
      refine (isNaN_ok _ _).mono ?_
      rintro e w' ⟨rfl,rfl⟩)
    go_ret
    exact ⟨by simp [cmpI],rfl⟩
  · have h' : ¬ x < y := by omega
    go_enter Tryz.func114,Tryz.ntmps114
    go_wp2_with (
      go_at_call 176
      refine (isNaN_ok _ _).mono ?_
      rintro e w' ⟨rfl,rfl⟩)
    go_ret
    exact ⟨by simp [cmpI,h,h'],rfl⟩
theorem compareI_ok (a b : List Int) (w : World) (va vb : Value) (ha : Is w a va) (hb : Is w b vb) :
    Calls Tryz.prog 105 #[va,vb] w fun e w' => e = .returned (.int .i64 (lexC cmpI a b)) ∧ w' = w := by
  obtain ⟨A,acap,rfl,h1,h2⟩ := VAt.slice ha
  obtain ⟨B,bcap,rfl,h3,h4⟩ := VAt.slice hb
  unfold maxLen at h2 h4
  have HA := Lib.hid ha
  have HB := Lib.hid hb
  clear ha hb
  go_enter Tryz.func105,Tryz.ntmps105
  go_wp2_with fail
  go_loopw [11] (fun i wr => ∃ n : Nat,n ≤ a.length ∧ i = .int .i64 n ∧ n ≤ b.length ∧ Hid (lexC cmpI a b = lexC cmpI (a.drop n) (b.drop n)) ∧ wr = w) (fun i _ => a.length - (intOf i).toNat)
  case atStart => exact ⟨0,Nat.zero_le _,rfl,Nat.zero_le _,Lib.hid (by simp),rfl⟩
  case round =>
    obtain ⟨n,hn,rfl,hnb,HE,rfl⟩ := hrel
    by_cases hlt : n < a.length
    · obtain ⟨x,hx⟩ : ∃ c,a[n]? = some c := ⟨_,List.getElem?_eq_getElem hlt⟩
      obtain ⟨ab,ao,rfl,_,e0,_,_⟩ := VAt.int HA.out hx
      have i1 : (0 : Int) ≤ (n : Int) := by omega
      have i2 : (n : Int) < (a.length : Int) := by omega
      have HX := Lib.hid hx
      clear hx
      by_cases hbl : n < b.length
      · obtain ⟨y,hy⟩ : ∃ c,b[n]? = some c := ⟨_,List.getElem?_eq_getElem hbl⟩
        obtain ⟨bb,bo,rfl,_,e1,_,_⟩ := VAt.int HB.out hy
        have i3 : (n : Int) < (b.length : Int) := by omega
        obtain ⟨r,hr⟩ : ∃ r,r = cmpI x y := ⟨_,rfl⟩
        have HST := Lib.hid (lexC_step (c := cmpI) HX.out hy)
        rw [← hr] at HST
        have HC := Lib.hid (cmpI_ok x y wr)
        rw [← hr] at HC
        clear hy hr
        by_cases hr0 : r = 0
        · subst hr0
          go_wp2_with (
            go_at_call 114
            refine HC.out.mono ?_
            rintro e w' ⟨rfl,rfl⟩)
          go_roundw
          case rel => exact ⟨n + 1,by omega,by go_num,by omega,Lib.hid (by rw [HE.out,HST.out]; simp),by trivial⟩
          case measure => simp [intOf]; omega
        · have hr1 : (r == 0) = false := by simpa using hr0
          go_wp2_with (
            go_at_call 114
            refine HC.out.mono ?_
            rintro e w' ⟨rfl,rfl⟩)
          go_ret
          exact ⟨by rw [HE.out,HST.out,if_neg hr0]; rfl,rfl⟩
      · have i3 : (b.length : Int) ≤ (n : Int) := by omega
        go_wp2_with fail
        go_ret
        exact ⟨by rw [HE.out,lexC_more hlt (by omega)]; rfl,rfl⟩
    · obtain rfl : n = a.length := by omega
      by_cases hlb : a.length < b.length
      · have i3 : (a.length : Int) < (b.length : Int) := by omega
        go_wp2_with fail
        go_ret
        exact ⟨by rw [HE.out,lexC_end hnb,if_pos hlb]; rfl,rfl⟩
      · have i3 : (b.length : Int) ≤ (a.length : Int) := by omega
        go_wp2_with fail
        go_ret
        exact ⟨by rw [HE.out,lexC_end hnb,if_neg hlb]; rfl,rfl⟩
theorem orI_ok (l : List Int) (w : World) (v : Value) (h : Is w l v) : Calls Tryz.prog 106 #[v] w fun e w' => e = .returned (.int .i64 (orI l)) ∧ w' = w := by
  obtain ⟨A,acap,rfl,h1,h2⟩ := VAt.slice h
  unfold maxLen at h2
  have HA := Lib.hid h
  clear h
  go_enter Tryz.func106,Tryz.ntmps106
  go_wp2_with fail
  go_loopw [8] (fun i wr => ∃ n : Nat,n ≤ l.length ∧ i = .int .i64 n ∧ Hid (orI l = orI (l.drop n)) ∧ wr = w) (fun i _ => l.length - (intOf i).toNat)
  case atStart => exact ⟨0,Nat.zero_le _,rfl,Lib.hid (by simp),rfl⟩
  case round =>
    obtain ⟨n,hn,rfl,HE,rfl⟩ := hrel
    by_cases hlt : n < l.length
    · obtain ⟨x,hx⟩ : ∃ c,l[n]? = some c := ⟨_,List.getElem?_eq_getElem hlt⟩
      obtain ⟨ab,ao,rfl,_,e0,_,_⟩ := VAt.int HA.out hx
      have i1 : (0 : Int) ≤ (n : Int) := by omega
      have i2 : (n : Int) < (l.length : Int) := by omega
      have HST := Lib.hid (orI_step hx)
      clear hx
      by_cases hr0 : x = 0
      · subst hr0
        go_wp2_with fail
        go_roundw
        case rel => exact ⟨n + 1,by omega,by go_num,Lib.hid (by rw [HE.out,HST.out]; simp),by trivial⟩
        case measure => simp [intOf]; omega
      · have hr1 : (x == 0) = false := by simpa using hr0
        go_wp2_with fail
        go_ret
        exact ⟨by rw [HE.out,HST.out,if_neg hr0]; rfl,rfl⟩
    · obtain rfl : n = l.length := by omega
      go_wp2_with fail
      go_ret
      exact ⟨by rw [HE.out,List.drop_eq_nil_of_le (Nat.le_refl _)]; rfl,rfl⟩
end Go.Proofs.YtjojbhkgdkcaoaaGreat
namespace Go.Proofs.YtjojbhkgdkcaoaaGreat
open Go.RowKit Go.Bh Go.Shelf Go.Proofs.YtjojbhkgdkcaoaaGreatW.PrintLast
theorem cmpF174_ok {w : World} {va vb : Value} {f : FuncId} (hf : FnIs Tryz.prog f) (c : Tm → Tm → Int) {a b : List Tm} (ha : TsP (fun _ => True) w a va) (hb : TsP (fun _ => True) w b vb)
    (hc : ∀ (i : Nat) (x0 : Int) (x1 : Int) (x2 : List Tm) (y0 : Int) (y1 : Int) (y2 : List Tm),a[i]? = some (.mk x0 x1 x2) → b[i]? = some (.mk y0 y1 y2) → ∀ (W : World) (A2 B2 : Option Addr) (c2 d2 : Nat),Below w.heap.size w W → TsP (fun _ => True) W x2 (.slice A2 x2.length c2) → TsP (fun _ => True) W y2 (.slice B2 y2.length d2) → Calls Tryz.prog f #[.agg #[.int .i64 x0,.int .i64 x1,.slice A2 x2.length c2],.agg #[.int .i64 y0,.int .i64 y1,.slice B2 y2.length d2]] W fun e W' => e = .returned (.int .i64 (c (.mk x0 x1 x2) (.mk y0 y1 y2))) ∧ Below W.heap.size W W') :
    Calls Tryz.prog 174 #[va,vb,.func (.func f) #[] #[]] w fun e w' => e = .returned (.int .i64 (lexC c a b)) ∧ Below w.heap.size w w' := by
  obtain ⟨A,acap,rfl,h1,h2⟩ := VAt.slice ha
  obtain ⟨B,bcap,rfl,h3,h4⟩ := VAt.slice hb
  unfold maxLen at h2 h4
  have HA := Lib.hid ha
  have HB := Lib.hid hb
  have HC := Lib.hid hc
  have hcf := hf.run
  clear ha hb hc
  go_enter Tryz.func174,Tryz.ntmps174
  go_wp2_with fail
  go_loopw [13] (fun i wr => ∃ n : Nat,n ≤ a.length ∧ i = .int .i64 n ∧ n ≤ b.length ∧ Hid (lexC c a b = lexC c (a.drop n) (b.drop n)) ∧ Hid (Below w.heap.size w wr)) (fun i _ => a.length - (intOf i).toNat)
  case atStart => exact ⟨0,Nat.zero_le _,rfl,Nat.zero_le _,Lib.hid (by simp),Lib.hid (Below.refl _ _)⟩
  case round =>
    obtain ⟨n,hn,rfl,hnb,HE,HBr⟩ := hrel
    by_cases hlt : n < a.length
    · obtain ⟨xx,hx⟩ : ∃ z,a[n]? = some z := ⟨_,List.getElem?_eq_getElem hlt⟩
      by_cases hbl : n < b.length
      · obtain ⟨yy,hy⟩ : ∃ z,b[n]? = some z := ⟨_,List.getElem?_eq_getElem hbl⟩
        obtain ⟨r,hr⟩ : ∃ r,r = c xx yy := ⟨_,rfl⟩
        have HST := Lib.hid (lexC_step (c := c) hx hy)
        rw [← hr] at HST
        have HR := Lib.hid hr
        clear hr
        obtain ⟨x0,x1,x2⟩ := xx
        obtain ⟨y0,y1,y2⟩ := yy
        obtain ⟨be,oe,A2,c2,rfl,_,e0,e1,e2,he2,_⟩ := TsP.get HA.out hx
        obtain ⟨bg,og,B2,d2,rfl,_,g0,g1,g2,hg2,_⟩ := TsP.get HB.out hy
        have e0 := Below.cellOf HBr.out e0
        have e1 := Below.cellOf HBr.out e1
        have e2 := Below.cellOf HBr.out e2
        have g0 := Below.cellOf HBr.out g0
        have g1 := Below.cellOf HBr.out g1
        have g2 := Below.cellOf HBr.out g2
        have hlg : bg < wr.heap.size := World.block_lt_of_cell? wr _ g0
        have hle : be < wr.heap.size := World.block_lt_of_cell? wr _ e0
        have i1 : (0 : Int) ≤ (n : Int) := by omega
        have i2 : (n : Int) < (a.length : Int) := by omega
        have i3 : (n : Int) < (b.length : Int) := by omega
        have HBB : Hid (Below w.heap.size w ((wr.alloc (.cells #[.int .i64 x0,.int .i64 x1,.slice A2 x2.length c2] 62)).alloc (.cells #[.int .i64 y0,.int .i64 y1,.slice B2 y2.length d2] 62))) := Lib.hid ((HBr.out.alloc HBr.out.size _).alloc (by have := HBr.out.size; simp; omega) _)
        have HK := Lib.hid (HC.out n x0 x1 x2 y0 y1 y2 hx hy _ _ _ _ _ HBB.out (Vt.below he2 HBB.out) (Vt.below hg2 HBB.out))
        rw [← HR.out] at HK
        clear hx hy he2 hg2
        by_cases hr0 : r = 0
        · subst hr0
          go_wp2_with fail
          refine HK.out.mono ?_
          rintro e W ⟨rfl,hbw⟩
          have HB2 := Lib.hid (below_trans HBB.out hbw)
          clear hbw
          go_wp2_with fail
          go_roundw
          case rel => exact ⟨n + 1,by omega,by go_num,by omega,Lib.hid (by rw [HE.out,HST.out]; simp),HB2⟩
          case measure => simp [intOf]; omega
        · have hr1 : (r == 0) = false := by simpa using hr0
          go_wp2_with fail
          refine HK.out.mono ?_
          rintro e W ⟨rfl,hbw⟩
          have HB2 := Lib.hid (below_trans HBB.out hbw)
          clear hbw
          go_wp2_with fail
          go_ret
          exact ⟨by rw [HE.out,HST.out,if_neg hr0]; rfl,HB2.out⟩
      · have i3 : (b.length : Int) ≤ (n : Int) := by omega
        obtain ⟨x0,x1,x2⟩ := xx
        obtain ⟨be,oe,A2,c2,rfl,_,e0,e1,e2,he2,_⟩ := TsP.get HA.out hx
        have e0 := Below.cellOf HBr.out e0
        have e1 := Below.cellOf HBr.out e1
        have e2 := Below.cellOf HBr.out e2
        have i1 : (0 : Int) ≤ (n : Int) := by omega
        have i2 : (n : Int) < (a.length : Int) := by omega
        clear hx he2
        go_wp2_with fail
        go_ret
        exact ⟨by rw [HE.out,lexC_more hlt (by omega)]; rfl,HBr.out.alloc HBr.out.size _⟩
    · obtain rfl : n = a.length := by omega
      by_cases hlb : a.length < b.length
      · have i3 : (a.length : Int) < (b.length : Int) := by omega
        go_wp2_with fail
        go_ret
        exact ⟨by rw [HE.out,lexC_end hnb,if_pos hlb]; rfl,HBr.out⟩
      · have i3 : (b.length : Int) ≤ (a.length : Int) := by omega
        go_wp2_with fail
        go_ret
        exact ⟨by rw [HE.out,lexC_end hnb,if_neg hlb]; rfl,HBr.out⟩
theorem cmpF172_ok {w : World} {va vb : Value} {f : FuncId} (hf : FnIs Tryz.prog f) (c : Off → Off → Int) {a b : List Off} (ha : OsP (fun _ => True) w a va) (hb : OsP (fun _ => True) w b vb)
    (hc : ∀ (i : Nat) (x0 : Bool) (x1 : Int) (x2 : Int) (x3 : Int) (x4 : List Tm) (y0 : Bool) (y1 : Int) (y2 : Int) (y3 : Int) (y4 : List Tm),a[i]? = some (⟨x0,x1,.mk x2 x3 x4⟩) → b[i]? = some (⟨y0,y1,.mk y2 y3 y4⟩) → ∀ (W : World) (A4 B4 : Option Addr) (c4 d4 : Nat),Below w.heap.size w W → TsP (fun _ => True) W x4 (.slice A4 x4.length c4) → TsP (fun _ => True) W y4 (.slice B4 y4.length d4) → Calls Tryz.prog f #[.agg #[.bool x0,.int .i64 x1,.int .i64 x2,.int .i64 x3,.slice A4 x4.length c4],.agg #[.bool y0,.int .i64 y1,.int .i64 y2,.int .i64 y3,.slice B4 y4.length d4]] W fun e W' => e = .returned (.int .i64 (c (⟨x0,x1,.mk x2 x3 x4⟩) (⟨y0,y1,.mk y2 y3 y4⟩))) ∧ Below W.heap.size W W') :
    Calls Tryz.prog 172 #[va,vb,.func (.func f) #[] #[]] w fun e w' => e = .returned (.int .i64 (lexC c a b)) ∧ Below w.heap.size w w' := by
  obtain ⟨A,acap,rfl,h1,h2⟩ := VAt.slice ha
  obtain ⟨B,bcap,rfl,h3,h4⟩ := VAt.slice hb
  unfold maxLen at h2 h4
  have HA := Lib.hid ha
  have HB := Lib.hid hb
  have HC := Lib.hid hc
  have hcf := hf.run
  clear ha hb hc
  go_enter Tryz.func172,Tryz.ntmps172
  go_wp2_with fail
  go_loopw [13] (fun i wr => ∃ n : Nat,n ≤ a.length ∧ i = .int .i64 n ∧ n ≤ b.length ∧ Hid (lexC c a b = lexC c (a.drop n) (b.drop n)) ∧ Hid (Below w.heap.size w wr)) (fun i _ => a.length - (intOf i).toNat)
  case atStart => exact ⟨0,Nat.zero_le _,rfl,Nat.zero_le _,Lib.hid (by simp),Lib.hid (Below.refl _ _)⟩
  case round =>
    obtain ⟨n,hn,rfl,hnb,HE,HBr⟩ := hrel
    by_cases hlt : n < a.length
    · obtain ⟨xx,hx⟩ : ∃ z,a[n]? = some z := ⟨_,List.getElem?_eq_getElem hlt⟩
      by_cases hbl : n < b.length
      · obtain ⟨yy,hy⟩ : ∃ z,b[n]? = some z := ⟨_,List.getElem?_eq_getElem hbl⟩
        obtain ⟨r,hr⟩ : ∃ r,r = c xx yy := ⟨_,rfl⟩
        have HST := Lib.hid (lexC_step (c := c) hx hy)
        rw [← hr] at HST
        have HR := Lib.hid hr
        clear hr
        obtain ⟨x0,x1,⟨x2,x3,x4⟩⟩ := xx
        obtain ⟨y0,y1,⟨y2,y3,y4⟩⟩ := yy
        obtain ⟨be,oe,A4,c4,rfl,_,e0,e1,e2,e3,e4,_,_,_,he4⟩ := OsP.get HA.out hx
        obtain ⟨bg,og,B4,d4,rfl,_,g0,g1,g2,g3,g4,_,_,_,hg4⟩ := OsP.get HB.out hy
        have e0 := Below.cellOf HBr.out e0
        have e1 := Below.cellOf HBr.out e1
        have e2 := Below.cellOf HBr.out e2
        have e3 := Below.cellOf HBr.out e3
        have e4 := Below.cellOf HBr.out e4
        have g0 := Below.cellOf HBr.out g0
        have g1 := Below.cellOf HBr.out g1
        have g2 := Below.cellOf HBr.out g2
        have g3 := Below.cellOf HBr.out g3
        have g4 := Below.cellOf HBr.out g4
        have hlg : bg < wr.heap.size := World.block_lt_of_cell? wr _ g0
        have hle : be < wr.heap.size := World.block_lt_of_cell? wr _ e0
        have i1 : (0 : Int) ≤ (n : Int) := by omega
        have i2 : (n : Int) < (a.length : Int) := by omega
        have i3 : (n : Int) < (b.length : Int) := by omega
        have HBB : Hid (Below w.heap.size w ((wr.alloc (.cells #[.bool x0,.int .i64 x1,.int .i64 x2,.int .i64 x3,.slice A4 x4.length c4] 68)).alloc (.cells #[.bool y0,.int .i64 y1,.int .i64 y2,.int .i64 y3,.slice B4 y4.length d4] 68))) := Lib.hid ((HBr.out.alloc HBr.out.size _).alloc (by have := HBr.out.size; simp; omega) _)
        have HK := Lib.hid (HC.out n x0 x1 x2 x3 x4 y0 y1 y2 y3 y4 hx hy _ _ _ _ _ HBB.out (Vt.below he4 HBB.out) (Vt.below hg4 HBB.out))
        rw [← HR.out] at HK
        clear hx hy he4 hg4
        by_cases hr0 : r = 0
        · subst hr0
          go_wp2_with fail
          refine HK.out.mono ?_
          rintro e W ⟨rfl,hbw⟩
          have HB2 := Lib.hid (below_trans HBB.out hbw)
          clear hbw
          go_wp2_with fail
          go_roundw
          case rel => exact ⟨n + 1,by omega,by go_num,by omega,Lib.hid (by rw [HE.out,HST.out]; simp),HB2⟩
          case measure => simp [intOf]; omega
        · have hr1 : (r == 0) = false := by simpa using hr0
          go_wp2_with fail
          refine HK.out.mono ?_
          rintro e W ⟨rfl,hbw⟩
          have HB2 := Lib.hid (below_trans HBB.out hbw)
          clear hbw
          go_wp2_with fail
          go_ret
          exact ⟨by rw [HE.out,HST.out,if_neg hr0]; rfl,HB2.out⟩
      · have i3 : (b.length : Int) ≤ (n : Int) := by omega
        obtain ⟨x0,x1,⟨x2,x3,x4⟩⟩ := xx
        obtain ⟨be,oe,A4,c4,rfl,_,e0,e1,e2,e3,e4,_,_,_,he4⟩ := OsP.get HA.out hx
        have e0 := Below.cellOf HBr.out e0
        have e1 := Below.cellOf HBr.out e1
        have e2 := Below.cellOf HBr.out e2
        have e3 := Below.cellOf HBr.out e3
        have e4 := Below.cellOf HBr.out e4
        have i1 : (0 : Int) ≤ (n : Int) := by omega
        have i2 : (n : Int) < (a.length : Int) := by omega
        clear hx he4
        go_wp2_with fail
        go_ret
        exact ⟨by rw [HE.out,lexC_more hlt (by omega)]; rfl,HBr.out.alloc HBr.out.size _⟩
    · obtain rfl : n = a.length := by omega
      by_cases hlb : a.length < b.length
      · have i3 : (a.length : Int) < (b.length : Int) := by omega
        go_wp2_with fail
        go_ret
        exact ⟨by rw [HE.out,lexC_end hnb,if_pos hlb]; rfl,HBr.out⟩
      · have i3 : (b.length : Int) ≤ (a.length : Int) := by omega
        go_wp2_with fail
        go_ret
        exact ⟨by rw [HE.out,lexC_end hnb,if_neg hlb]; rfl,HBr.out⟩
theorem cmpF173_ok {w : World} {va vb : Value} {f : FuncId} (hf : FnIs Tryz.prog f) (c : Pr → Pr → Int) {a b : List Pr} (ha : PsP (fun _ => True) w a va) (hb : PsP (fun _ => True) w b vb)
    (hc : ∀ (i : Nat) (x0 : Int) (x1 : Int) (x2 : List Tm) (x3 : Int) (x4 : Int) (x5 : List Tm) (y0 : Int) (y1 : Int) (y2 : List Tm) (y3 : Int) (y4 : Int) (y5 : List Tm),a[i]? = some (⟨.mk x0 x1 x2,.mk x3 x4 x5⟩) → b[i]? = some (⟨.mk y0 y1 y2,.mk y3 y4 y5⟩) → ∀ (W : World) (A2 B2 : Option Addr) (c2 d2 : Nat) (A5 B5 : Option Addr) (c5 d5 : Nat),Below w.heap.size w W → TsP (fun _ => True) W x2 (.slice A2 x2.length c2) → TsP (fun _ => True) W y2 (.slice B2 y2.length d2) → TsP (fun _ => True) W x5 (.slice A5 x5.length c5) → TsP (fun _ => True) W y5 (.slice B5 y5.length d5) → Calls Tryz.prog f #[.agg #[.int .i64 x0,.int .i64 x1,.slice A2 x2.length c2,.int .i64 x3,.int .i64 x4,.slice A5 x5.length c5],.agg #[.int .i64 y0,.int .i64 y1,.slice B2 y2.length d2,.int .i64 y3,.int .i64 y4,.slice B5 y5.length d5]] W fun e W' => e = .returned (.int .i64 (c (⟨.mk x0 x1 x2,.mk x3 x4 x5⟩) (⟨.mk y0 y1 y2,.mk y3 y4 y5⟩))) ∧ Below W.heap.size W W') :
    Calls Tryz.prog 173 #[va,vb,.func (.func f) #[] #[]] w fun e w' => e = .returned (.int .i64 (lexC c a b)) ∧ Below w.heap.size w w' := by
  obtain ⟨A,acap,rfl,h1,h2⟩ := VAt.slice ha
  obtain ⟨B,bcap,rfl,h3,h4⟩ := VAt.slice hb
  unfold maxLen at h2 h4
  have HA := Lib.hid ha
  have HB := Lib.hid hb
  have HC := Lib.hid hc
  have hcf := hf.run
  clear ha hb hc
  go_enter Tryz.func173,Tryz.ntmps173
  go_wp2_with fail
  go_loopw [13] (fun i wr => ∃ n : Nat,n ≤ a.length ∧ i = .int .i64 n ∧ n ≤ b.length ∧ Hid (lexC c a b = lexC c (a.drop n) (b.drop n)) ∧ Hid (Below w.heap.size w wr)) (fun i _ => a.length - (intOf i).toNat)
  case atStart => exact ⟨0,Nat.zero_le _,rfl,Nat.zero_le _,Lib.hid (by simp),Lib.hid (Below.refl _ _)⟩
  case round =>
    obtain ⟨n,hn,rfl,hnb,HE,HBr⟩ := hrel
    by_cases hlt : n < a.length
    · obtain ⟨xx,hx⟩ : ∃ z,a[n]? = some z := ⟨_,List.getElem?_eq_getElem hlt⟩
      by_cases hbl : n < b.length
      · obtain ⟨yy,hy⟩ : ∃ z,b[n]? = some z := ⟨_,List.getElem?_eq_getElem hbl⟩
        obtain ⟨r,hr⟩ : ∃ r,r = c xx yy := ⟨_,rfl⟩
        have HST := Lib.hid (lexC_step (c := c) hx hy)
        rw [← hr] at HST
        have HR := Lib.hid hr
        clear hr
        obtain ⟨⟨x0,x1,x2⟩,⟨x3,x4,x5⟩⟩ := xx
        obtain ⟨⟨y0,y1,y2⟩,⟨y3,y4,y5⟩⟩ := yy
        obtain ⟨be,oe,A2,c2,A5,c5,rfl,_,e0,e1,e2,e3,e4,e5,_,_,he2,_,_,he5⟩ := PsP.get HA.out hx
        obtain ⟨bg,og,B2,d2,B5,d5,rfl,_,g0,g1,g2,g3,g4,g5,_,_,hg2,_,_,hg5⟩ := PsP.get HB.out hy
        have e0 := Below.cellOf HBr.out e0
        have e1 := Below.cellOf HBr.out e1
        have e2 := Below.cellOf HBr.out e2
        have e3 := Below.cellOf HBr.out e3
        have e4 := Below.cellOf HBr.out e4
        have e5 := Below.cellOf HBr.out e5
        have g0 := Below.cellOf HBr.out g0
        have g1 := Below.cellOf HBr.out g1
        have g2 := Below.cellOf HBr.out g2
        have g3 := Below.cellOf HBr.out g3
        have g4 := Below.cellOf HBr.out g4
        have g5 := Below.cellOf HBr.out g5
        have hlg : bg < wr.heap.size := World.block_lt_of_cell? wr _ g0
        have hle : be < wr.heap.size := World.block_lt_of_cell? wr _ e0
        have i1 : (0 : Int) ≤ (n : Int) := by omega
        have i2 : (n : Int) < (a.length : Int) := by omega
        have i3 : (n : Int) < (b.length : Int) := by omega
        have HBB : Hid (Below w.heap.size w ((wr.alloc (.cells #[.int .i64 x0,.int .i64 x1,.slice A2 x2.length c2,.int .i64 x3,.int .i64 x4,.slice A5 x5.length c5] 115)).alloc (.cells #[.int .i64 y0,.int .i64 y1,.slice B2 y2.length d2,.int .i64 y3,.int .i64 y4,.slice B5 y5.length d5] 115))) := Lib.hid ((HBr.out.alloc HBr.out.size _).alloc (by have := HBr.out.size; simp; omega) _)
        have HK := Lib.hid (HC.out n x0 x1 x2 x3 x4 x5 y0 y1 y2 y3 y4 y5 hx hy _ _ _ _ _ _ _ _ _ HBB.out (Vt.below he2 HBB.out) (Vt.below hg2 HBB.out) (Vt.below he5 HBB.out) (Vt.below hg5 HBB.out))
        rw [← HR.out] at HK
        clear hx hy he2 he5 hg2 hg5
        by_cases hr0 : r = 0
        · subst hr0
          go_wp2_with fail
          refine HK.out.mono ?_
          rintro e W ⟨rfl,hbw⟩
          have HB2 := Lib.hid (below_trans HBB.out hbw)
          clear hbw
          go_wp2_with fail
          go_roundw
          case rel => exact ⟨n + 1,by omega,by go_num,by omega,Lib.hid (by rw [HE.out,HST.out]; simp),HB2⟩
          case measure => simp [intOf]; omega
        · have hr1 : (r == 0) = false := by simpa using hr0
          go_wp2_with fail
          refine HK.out.mono ?_
          rintro e W ⟨rfl,hbw⟩
          have HB2 := Lib.hid (below_trans HBB.out hbw)
          clear hbw
          go_wp2_with fail
          go_ret
          exact ⟨by rw [HE.out,HST.out,if_neg hr0]; rfl,HB2.out⟩
      · have i3 : (b.length : Int) ≤ (n : Int) := by omega
        obtain ⟨⟨x0,x1,x2⟩,⟨x3,x4,x5⟩⟩ := xx
        obtain ⟨be,oe,A2,c2,A5,c5,rfl,_,e0,e1,e2,e3,e4,e5,_,_,he2,_,_,he5⟩ := PsP.get HA.out hx
        have e0 := Below.cellOf HBr.out e0
        have e1 := Below.cellOf HBr.out e1
        have e2 := Below.cellOf HBr.out e2
        have e3 := Below.cellOf HBr.out e3
        have e4 := Below.cellOf HBr.out e4
        have e5 := Below.cellOf HBr.out e5
        have i1 : (0 : Int) ≤ (n : Int) := by omega
        have i2 : (n : Int) < (a.length : Int) := by omega
        clear hx he2 he5
        go_wp2_with fail
        go_ret
        exact ⟨by rw [HE.out,lexC_more hlt (by omega)]; rfl,HBr.out.alloc HBr.out.size _⟩
    · obtain rfl : n = a.length := by omega
      by_cases hlb : a.length < b.length
      · have i3 : (a.length : Int) < (b.length : Int) := by omega
        go_wp2_with fail
        go_ret
        exact ⟨by rw [HE.out,lexC_end hnb,if_pos hlb]; rfl,HBr.out⟩
      · have i3 : (b.length : Int) ≤ (a.length : Int) := by omega
        go_wp2_with fail
        go_ret
        exact ⟨by rw [HE.out,lexC_end hnb,if_neg hlb]; rfl,HBr.out⟩
theorem cmpF175_ok {w : World} {va vb : Value} {f : FuncId} (hf : FnIs Tryz.prog f) (c : Be → Be → Int) {a b : List Be} (ha : BsP (fun _ => True) w a va) (hb : BsP (fun _ => True) w b vb)
    (hc : ∀ (i : Nat) (x0 : Int) (x1 : Int) (x2 : Int) (x3 : Int) (x4 : Int) (x5 : List Int) (x6 : List Off) (x7 : List Pr) (x8 : List Int) (x9 : List Tm) (x10 : List Be) (y0 : Int) (y1 : Int) (y2 : Int) (y3 : Int) (y4 : Int) (y5 : List Int) (y6 : List Off) (y7 : List Pr) (y8 : List Int) (y9 : List Tm) (y10 : List Be),a[i]? = some (.mk x0 x1 x2 x3 x4 x5 x6 x7 x8 x9 x10) → b[i]? = some (.mk y0 y1 y2 y3 y4 y5 y6 y7 y8 y9 y10) → ∀ (W : World) (A5 B5 : Option Addr) (c5 d5 : Nat) (A6 B6 : Option Addr) (c6 d6 : Nat) (A7 B7 : Option Addr) (c7 d7 : Nat) (A8 B8 : Option Addr) (c8 d8 : Nat) (A9 B9 : Option Addr) (c9 d9 : Nat) (A10 B10 : Option Addr) (c10 d10 : Nat),Below w.heap.size w W → IsP (fun _ => True) W x5 (.slice A5 x5.length c5) → IsP (fun _ => True) W y5 (.slice B5 y5.length d5) → OsP (fun _ => True) W x6 (.slice A6 x6.length c6) → OsP (fun _ => True) W y6 (.slice B6 y6.length d6) → PsP (fun _ => True) W x7 (.slice A7 x7.length c7) → PsP (fun _ => True) W y7 (.slice B7 y7.length d7) → IsP (fun _ => True) W x8 (.slice A8 x8.length c8) → IsP (fun _ => True) W y8 (.slice B8 y8.length d8) → TsP (fun _ => True) W x9 (.slice A9 x9.length c9) → TsP (fun _ => True) W y9 (.slice B9 y9.length d9) → BsP (fun _ => True) W x10 (.slice A10 x10.length c10) → BsP (fun _ => True) W y10 (.slice B10 y10.length d10) → Calls Tryz.prog f #[.agg #[.int .i64 x0,.int .i64 x1,.int .i64 x2,.int .i64 x3,.int .i64 x4,.slice A5 x5.length c5,.slice A6 x6.length c6,.slice A7 x7.length c7,.slice A8 x8.length c8,.slice A9 x9.length c9,.slice A10 x10.length c10],.agg #[.int .i64 y0,.int .i64 y1,.int .i64 y2,.int .i64 y3,.int .i64 y4,.slice B5 y5.length d5,.slice B6 y6.length d6,.slice B7 y7.length d7,.slice B8 y8.length d8,.slice B9 y9.length d9,.slice B10 y10.length d10]] W fun e W' => e = .returned (.int .i64 (c (.mk x0 x1 x2 x3 x4 x5 x6 x7 x8 x9 x10) (.mk y0 y1 y2 y3 y4 y5 y6 y7 y8 y9 y10))) ∧ Below W.heap.size W W') :
    Calls Tryz.prog 175 #[va,vb,.func (.func f) #[] #[]] w fun e w' => e = .returned (.int .i64 (lexC c a b)) ∧ Below w.heap.size w w' := by
  obtain ⟨A,acap,rfl,h1,h2⟩ := VAt.slice ha
  obtain ⟨B,bcap,rfl,h3,h4⟩ := VAt.slice hb
  unfold maxLen at h2 h4
  have HA := Lib.hid ha
  have HB := Lib.hid hb
  have HC := Lib.hid hc
  have hcf := hf.run
  clear ha hb hc
  go_enter Tryz.func175,Tryz.ntmps175
  go_wp2_with fail
  go_loopw [13] (fun i wr => ∃ n : Nat,n ≤ a.length ∧ i = .int .i64 n ∧ n ≤ b.length ∧ Hid (lexC c a b = lexC c (a.drop n) (b.drop n)) ∧ Hid (Below w.heap.size w wr)) (fun i _ => a.length - (intOf i).toNat)
  case atStart => exact ⟨0,Nat.zero_le _,rfl,Nat.zero_le _,Lib.hid (by simp),Lib.hid (Below.refl _ _)⟩
  case round =>
    obtain ⟨n,hn,rfl,hnb,HE,HBr⟩ := hrel
    by_cases hlt : n < a.length
    · obtain ⟨xx,hx⟩ : ∃ z,a[n]? = some z := ⟨_,List.getElem?_eq_getElem hlt⟩
      by_cases hbl : n < b.length
      · obtain ⟨yy,hy⟩ : ∃ z,b[n]? = some z := ⟨_,List.getElem?_eq_getElem hbl⟩
        obtain ⟨r,hr⟩ : ∃ r,r = c xx yy := ⟨_,rfl⟩
        have HST := Lib.hid (lexC_step (c := c) hx hy)
        rw [← hr] at HST
        have HR := Lib.hid hr
        clear hr
        obtain ⟨x0,x1,x2,x3,x4,x5,x6,x7,x8,x9,x10⟩ := xx
        obtain ⟨y0,y1,y2,y3,y4,y5,y6,y7,y8,y9,y10⟩ := yy
        obtain ⟨be,oe,A5,c5,A6,c6,A7,c7,A8,c8,A9,c9,A10,c10,rfl,_,e0,e1,e2,e3,e4,e5,e6,e7,e8,e9,e10,_,_,_,_,_,he5,he6,he7,he8,he9,he10⟩ := BsP.get HA.out hx
        obtain ⟨bg,og,B5,d5,B6,d6,B7,d7,B8,d8,B9,d9,B10,d10,rfl,_,g0,g1,g2,g3,g4,g5,g6,g7,g8,g9,g10,_,_,_,_,_,hg5,hg6,hg7,hg8,hg9,hg10⟩ := BsP.get HB.out hy
        have e0 := Below.cellOf HBr.out e0
        have e1 := Below.cellOf HBr.out e1
        have e2 := Below.cellOf HBr.out e2
        have e3 := Below.cellOf HBr.out e3
        have e4 := Below.cellOf HBr.out e4
        have e5 := Below.cellOf HBr.out e5
        have e6 := Below.cellOf HBr.out e6
        have e7 := Below.cellOf HBr.out e7
        have e8 := Below.cellOf HBr.out e8
        have e9 := Below.cellOf HBr.out e9
        have e10 := Below.cellOf HBr.out e10
        have g0 := Below.cellOf HBr.out g0
        have g1 := Below.cellOf HBr.out g1
        have g2 := Below.cellOf HBr.out g2
        have g3 := Below.cellOf HBr.out g3
        have g4 := Below.cellOf HBr.out g4
        have g5 := Below.cellOf HBr.out g5
        have g6 := Below.cellOf HBr.out g6
        have g7 := Below.cellOf HBr.out g7
        have g8 := Below.cellOf HBr.out g8
        have g9 := Below.cellOf HBr.out g9
        have g10 := Below.cellOf HBr.out g10
        have hlg : bg < wr.heap.size := World.block_lt_of_cell? wr _ g0
        have hle : be < wr.heap.size := World.block_lt_of_cell? wr _ e0
        have i1 : (0 : Int) ≤ (n : Int) := by omega
        have i2 : (n : Int) < (a.length : Int) := by omega
        have i3 : (n : Int) < (b.length : Int) := by omega
        have HBB : Hid (Below w.heap.size w ((wr.alloc (.cells #[.int .i64 x0,.int .i64 x1,.int .i64 x2,.int .i64 x3,.int .i64 x4,.slice A5 x5.length c5,.slice A6 x6.length c6,.slice A7 x7.length c7,.slice A8 x8.length c8,.slice A9 x9.length c9,.slice A10 x10.length c10] 28)).alloc (.cells #[.int .i64 y0,.int .i64 y1,.int .i64 y2,.int .i64 y3,.int .i64 y4,.slice B5 y5.length d5,.slice B6 y6.length d6,.slice B7 y7.length d7,.slice B8 y8.length d8,.slice B9 y9.length d9,.slice B10 y10.length d10] 28))) := Lib.hid ((HBr.out.alloc HBr.out.size _).alloc (by have := HBr.out.size; simp; omega) _)
        have HK := Lib.hid (HC.out n x0 x1 x2 x3 x4 x5 x6 x7 x8 x9 x10 y0 y1 y2 y3 y4 y5 y6 y7 y8 y9 y10 hx hy _ _ _ _ _ _ _ _ _ _ _ _ _ _ _ _ _ _ _ _ _ _ _ _ _ HBB.out (Vt.below he5 HBB.out) (Vt.below hg5 HBB.out) (Vt.below he6 HBB.out) (Vt.below hg6 HBB.out) (Vt.below he7 HBB.out) (Vt.below hg7 HBB.out) (Vt.below he8 HBB.out) (Vt.below hg8 HBB.out) (Vt.below he9 HBB.out) (Vt.below hg9 HBB.out) (Vt.below he10 HBB.out) (Vt.below hg10 HBB.out))
        rw [← HR.out] at HK
        clear hx hy he5 he6 he7 he8 he9 he10 hg5 hg6 hg7 hg8 hg9 hg10
        by_cases hr0 : r = 0
        · subst hr0
          go_wp2_with fail
          refine HK.out.mono ?_
          rintro e W ⟨rfl,hbw⟩
          have HB2 := Lib.hid (below_trans HBB.out hbw)
          clear hbw
          go_wp2_with fail
          go_roundw
          case rel => exact ⟨n + 1,by omega,by go_num,by omega,Lib.hid (by rw [HE.out,HST.out]; simp),HB2⟩
          case measure => simp [intOf]; omega
        · have hr1 : (r == 0) = false := by simpa using hr0
          go_wp2_with fail
          refine HK.out.mono ?_
          rintro e W ⟨rfl,hbw⟩
          have HB2 := Lib.hid (below_trans HBB.out hbw)
          clear hbw
          go_wp2_with fail
          go_ret
          exact ⟨by rw [HE.out,HST.out,if_neg hr0]; rfl,HB2.out⟩
      · have i3 : (b.length : Int) ≤ (n : Int) := by omega
        obtain ⟨x0,x1,x2,x3,x4,x5,x6,x7,x8,x9,x10⟩ := xx
        obtain ⟨be,oe,A5,c5,A6,c6,A7,c7,A8,c8,A9,c9,A10,c10,rfl,_,e0,e1,e2,e3,e4,e5,e6,e7,e8,e9,e10,_,_,_,_,_,he5,he6,he7,he8,he9,he10⟩ := BsP.get HA.out hx
        have e0 := Below.cellOf HBr.out e0
        have e1 := Below.cellOf HBr.out e1
        have e2 := Below.cellOf HBr.out e2
        have e3 := Below.cellOf HBr.out e3
        have e4 := Below.cellOf HBr.out e4
        have e5 := Below.cellOf HBr.out e5
        have e6 := Below.cellOf HBr.out e6
        have e7 := Below.cellOf HBr.out e7
        have e8 := Below.cellOf HBr.out e8
        have e9 := Below.cellOf HBr.out e9
        have e10 := Below.cellOf HBr.out e10
        have i1 : (0 : Int) ≤ (n : Int) := by omega
        have i2 : (n : Int) < (a.length : Int) := by omega
        clear hx he5 he6 he7 he8 he9 he10
        go_wp2_with fail
        go_ret
        exact ⟨by rw [HE.out,lexC_more hlt (by omega)]; rfl,HBr.out.alloc HBr.out.size _⟩
    · obtain rfl : n = a.length := by omega
      by_cases hlb : a.length < b.length
      · have i3 : (a.length : Int) < (b.length : Int) := by omega
        go_wp2_with fail
        go_ret
        exact ⟨by rw [HE.out,lexC_end hnb,if_pos hlb]; rfl,HBr.out⟩
      · have i3 : (b.length : Int) ≤ (a.length : Int) := by omega
        go_wp2_with fail
        go_ret
        exact ⟨by rw [HE.out,lexC_end hnb,if_neg hlb]; rfl,HBr.out⟩
end Go.Proofs.YtjojbhkgdkcaoaaGreat
