/- A part of the proof: texts of this session, joined. -/
import Derived.WalkKit
import Derived.Deep.AppendLies
import Derived.ArgAppend
import Derived.Test.YtclkokkppgchfaaChecked
import Derived.Test.YtclkokkppgchfaaShort
set_option linter.unusedSimpArgs false
set_option linter.unusedVariables false
namespace Go.Ng
open Go Go.RowKit
abbrev Tag := Nat × Nat × Int
def TagOk (tag : Nat → Tag) (w : World) : Prop := ∀ b,(tag b).1 ≠ 0 → b < w.heap.size
structure Fr (S : Tag → Prop) (tag tag' : Nat → Tag) (w w' : World) : Prop where
  os : w'.os = w.os
  tape : w'.tape = w.tape
  output : w'.output = w.output
  size : w.heap.size ≤ w'.heap.size
  same : ∀ b,b < w.heap.size → tag' b = tag b
  block : ∀ b,b < w.heap.size → ¬ S (tag b) → w'.heap[b]? = w.heap[b]?
  dom : TagOk tag' w'
section
variable {S S' : Tag → Prop} {tag tag' tag'' : Nat → Tag} {w w' w'' : World}
theorem Fr.refl (h : TagOk tag w) : Fr S tag tag w w := ⟨rfl,rfl,rfl,Nat.le_refl _,fun _ _ => rfl,fun _ _ _ => rfl,h⟩
theorem Fr.trans (h : Fr S tag tag' w w') (k : Fr S tag' tag'' w' w'') : Fr S tag tag'' w w'' :=
  ⟨k.os.trans h.os,k.tape.trans h.tape,k.output.trans h.output,Nat.le_trans h.size k.size,
   fun b hb => (k.same b (Nat.lt_of_lt_of_le hb h.size)).trans (h.same b hb),
   fun b hb hs => (k.block b (Nat.lt_of_lt_of_le hb h.size) (by rw [h.same b hb]; exact hs)).trans (h.block b hb hs),k.dom⟩
theorem Fr.mono (h : Fr S tag tag' w w') (hS : ∀ t,S t → S' t) : Fr S' tag tag' w w' :=
  ⟨h.os,h.tape,h.output,h.size,h.same,fun b hb hs => h.block b hb (fun x => hs (hS _ x)),h.dom⟩
theorem TagOk.alloc (h : TagOk tag w) (o : Obj) : TagOk tag (w.alloc o) := fun b hb => by have := h b hb; simp; omega
theorem TagOk.drew (h : TagOk tag w) : TagOk tag w.drew := h
theorem TagOk.setCell (h : TagOk tag w) (a : Addr) (v : Value) : TagOk tag (w.setCell a v) := fun b hb => by simpa using h b hb
theorem TagOk.new (h : TagOk tag w) : (tag w.heap.size).1 = 0 := by
  by_cases h0 : (tag w.heap.size).1 = 0
  · exact h0
  · have := h _ h0; omega
theorem Fr.alloc (h : TagOk tag w) (o : Obj) : Fr S tag tag w (w.alloc o) :=
  ⟨rfl,rfl,rfl,by simp,fun _ _ => rfl,fun b hb _ => Below.heap_alloc w o b hb,h.alloc o⟩
theorem Fr.drew (h : TagOk tag w) : Fr S tag tag w w.drew := ⟨rfl,rfl,rfl,Nat.le_refl _,fun _ _ => rfl,fun _ _ _ => rfl,h⟩
theorem Fr.setCell (h : TagOk tag w) {a : Addr} (ha : S (tag a.block)) (v : Value) : Fr S tag tag w (w.setCell a v) :=
  ⟨rfl,rfl,rfl,by simp,fun _ _ => rfl,fun b _ hs => Below.heap_setCell w a v b (fun e => hs (e ▸ ha)),h.setCell a v⟩
def give (tag : Nat → Tag) (b : Nat) (t : Tag) : Nat → Tag := fun x => if x = b then t else tag x
theorem give_at (tag : Nat → Tag) (b : Nat) (t : Tag) : give tag b t b = t := by simp [give]
theorem give_ne (tag : Nat → Tag) {b x : Nat} (t : Tag) (h : x ≠ b) : give tag b t x = tag x := by simp [give,h]
theorem TagOk.give_alloc (h : TagOk tag w) (o : Obj) (t : Tag) : TagOk (give tag w.heap.size t) (w.alloc o) := fun b hb => by
  by_cases e : b = w.heap.size
  · subst e; simp
  · rw [give_ne _ _ e] at hb; have := h b hb; simp; omega
theorem Fr.give_alloc (h : TagOk tag w) (o : Obj) (t : Tag) : Fr S tag (give tag w.heap.size t) w (w.alloc o) :=
  ⟨rfl,rfl,rfl,by simp,fun b hb => give_ne _ _ (by omega),fun b hb _ => Below.heap_alloc w o b hb,h.give_alloc o t⟩
theorem Fr.below (h : Fr S tag tag' w w') (hS : ∀ b,b < w.heap.size → ¬ S (tag b)) : Below w.heap.size w w' :=
  ⟨h.os,h.tape,h.output,h.size,fun b hb => h.block b hb (hS b hb)⟩
theorem Fr.heap (h : Fr S tag tag' w w') {b : Nat} {o : Obj} (hb : w.heap[b]? = some o) (hs : ¬ S (tag b)) : w'.heap[b]? = some o :=
  (h.block b (Array.getElem?_eq_some_iff.1 hb).1 hs).trans hb
theorem Fr.tag_eq (h : Fr S tag tag' w w') {b : Nat} {o : Obj} (hb : w.heap[b]? = some o) : tag' b = tag b := h.same b (Array.getElem?_eq_some_iff.1 hb).1
end
theorem lt_of_heap {w : World} {b : Nat} {o : Obj} (hb : w.heap[b]? = some o) : b < w.heap.size := (Array.getElem?_eq_some_iff.1 hb).1
theorem cell_of {w : World} {b : Nat} {cs : Array Value} {E : TypeId} {fr : Nat × Nat} (hb : w.heap[b]? = some (.cells cs E fr)) (o : Nat) : w.cell? ⟨b,o,none⟩ = cs[o]? := by
  simp [World.cell?,hb]
theorem free_of {w : World} {b : Nat} {cs : Array Value} {E : TypeId} (hb : w.heap[b]? = some (.cells cs E (0,0))) (o : Nat) : w.frozen? ⟨b,o,none⟩ = false := by
  simp [World.frozen?,hb]
theorem heap_setCell_same {w : World} {b : Nat} {cs : Array Value} {E : TypeId} {fr : Nat × Nat} (hb : w.heap[b]? = some (.cells cs E fr)) (o : Nat) (v : Value) :
    (w.setCell ⟨b,o,none⟩ v).heap[b]? = some (.cells (cs.setIfInBounds o v) E fr) := by
  simp [World.setCell,Array.getElem?_modify,hb]
theorem heap_setCell_ne {w : World} {b b' : Nat} (h : b' ≠ b) (o : Nat) (v : Value) : (w.setCell ⟨b,o,none⟩ v).heap[b']? = w.heap[b']? :=
  Below.heap_setCell w ⟨b,o,none⟩ v b' h
theorem heap_alloc_at (w : World) (o : Obj) : (w.alloc o).heap[w.heap.size]? = some o := by unfold World.alloc; simp
theorem heap_alloc_lt {w : World} {b : Nat} {x : Obj} (hb : w.heap[b]? = some x) (o : Obj) : (w.alloc o).heap[b]? = some x := (Below.heap_alloc w o b (lt_of_heap hb)).trans hb
theorem ca {w : World} {a : Addr} {v : Value} (h : w.cell? a = some v) (o : Obj) : (w.alloc o).cell? a = some v := by
  rw [World.cell?_alloc_lt _ _ _ (World.block_lt_of_cell? w a h)]; exact h
theorem ne_of_tag {tag : Nat → Tag} {a b : Nat} {s t : Tag} (ha : tag a = s) (hb : tag b = t) (h : s ≠ t) : a ≠ b := fun e => h (by rw [← ha,← hb,e])
def Row (tag : Nat → Tag) (t : Tag) (E sz : Nat) (w : World) (v : Value) (n : Nat) (ks : List Value) : Prop :=
  (w.ownsRow 0 E sz v n ks ∧ ∀ b,v.ownBlock = some b → tag b = t) ∨ ((∃ A : Option Addr,v = .slice A 0 0 ∧ ∀ a,A = some a → a.off = 0 ∧ a.spot = none) ∧ n = 0 ∧ ks = [])
section
variable {tag tag' : Nat → Tag} {t : Tag} {E sz : Nat} {w w' : World} {v : Value} {n : Nat} {ks : List Value} {S : Tag → Prop}
theorem Row.nil (tag : Nat → Tag) (t : Tag) (E sz : Nat) (w : World) : Row tag t E sz w (.slice none 0 0) 0 [] := .inr ⟨⟨none,rfl,by simp⟩,rfl,rfl⟩
theorem Row.bare (tag : Nat → Tag) (t : Tag) (E sz : Nat) (w : World) (b : Nat) : Row tag t E sz w (.slice (some ⟨b,0,none⟩) 0 0) 0 [] := .inr ⟨⟨some ⟨b,0,none⟩,rfl,by intro a h; injection h with h; subst h; exact ⟨rfl,rfl⟩⟩,rfl,rfl⟩
theorem Row.len (h : Row tag t E sz w v n ks) : ks.length = n * sz := by
  rcases h with ⟨h,_⟩ | ⟨_,rfl,rfl⟩
  · exact h.1
  · simp
theorem Row.form (h : Row tag t E sz w v n ks) : ∃ A cap,v = .slice A n cap ∧ n ≤ cap ∧ cap ≤ maxLen := by
  rcases h with ⟨h,_⟩ | ⟨⟨A,hA⟩,rfl,rfl⟩
  · rcases h.2 with ⟨rfl,rfl⟩ | ⟨g,cap,cur,rfl,_,_,h1,h2,_⟩
    · exact ⟨none,0,rfl,Nat.le_refl _,Nat.zero_le _⟩
    · exact ⟨_,cap,rfl,h1,h2⟩
  · exact ⟨A,0,hA.1,Nat.le_refl _,Nat.zero_le _⟩
theorem Row.keep (h : Row tag t E sz w v n ks) (hb : ∀ b,b < w.heap.size → tag b = t → tag' b = t ∧ w'.heap[b]? = w.heap[b]?) : Row tag' t E sz w' v n ks := by
  rcases h with ⟨h,ht⟩ | h
  · rcases h.2 with ⟨rfl,rfl⟩ | ⟨g,cap,cur,rfl,h0,hg,h1,h2,h3,h4⟩
    · left; exact ⟨⟨h.1,.inl ⟨rfl,rfl⟩⟩,by simp [Value.ownBlock]⟩
    · have htg : tag g = t := ht g rfl
      obtain ⟨k1,k2⟩ := hb g (lt_of_heap hg) htg
      left
      refine ⟨⟨h.1,.inr ⟨g,cap,cur,rfl,h0,k2.trans hg,h1,h2,h3,h4⟩⟩,?_⟩
      intro b hbb
      simp [Value.ownBlock] at hbb
      subst hbb
      exact k1
  · exact .inr h
theorem Row.fr (h : Row tag t E sz w v n ks) (hf : Fr S tag tag' w w') (hS : ¬ S t) : Row tag' t E sz w' v n ks :=
  h.keep fun b hb ht => ⟨(hf.same b hb).trans ht,hf.block b hb (by rw [ht]; exact hS)⟩
theorem Row.cell (h : Row tag t E sz w v n ks) {A : Option Addr} {m cap : Nat} (hv : v = .slice A m cap) {j : Nat} (hj : j < ks.length) : ∃ b,A = some ⟨b,0,none⟩ ∧ tag b = t ∧ b < w.heap.size ∧ w.cell? ⟨b,j,none⟩ = ks[j]? := by
  rcases h with ⟨h,ht⟩ | ⟨_,_,rfl⟩
  · have hl := h.1
    rcases h.2 with ⟨rfl,rfl⟩ | ⟨g,cap',cur,rfl,h0,hg,h1,h2,h3,h4⟩
    · simp at hl; subst hl; simp at hj
    · injection hv with e1 e2 e3
      subst e1
      refine ⟨g,rfl,ht g rfl,lt_of_heap hg,?_⟩
      rw [cell_of hg,← h4,List.getElem?_take,if_pos (by omega)]
      simp
  · simp at hj
theorem Row.block (h : Row tag t E sz w v n ks) (hn : 0 < ks.length) : ∃ b cap cur,v = .slice (some ⟨b,0,none⟩) n cap ∧ tag b = t ∧ w.heap[b]? = some (.cells cur E (0,0)) ∧ n ≤ cap ∧ cur.size = cap * sz ∧ cur.toList.take (n * sz) = ks := by
  rcases h with ⟨h,ht⟩ | ⟨_,_,rfl⟩
  · have hl := h.1
    rcases h.2 with ⟨rfl,rfl⟩ | ⟨g,cap',cur,rfl,h0,hg,h1,h2,h3,h4⟩
    · simp at hl; subst hl; simp at hn
    · exact ⟨g,cap',cur,rfl,ht g rfl,hg,h1,h3,h4⟩
  · simp at hn
end
section
variable {P : Program} {tag : Nat → Tag} {t : Tag} {E sz : Nat} {w : World} {v : Value} {n : Nat} {ks : List Value}
theorem Row.append_run (h : Row tag t E sz w v n ks) (hok : TagOk tag w) (T ty : TypeId) (i : TypeInfo) (z : Value) (bytes : Nat) (hT : P.underlying T = some (.slice E)) (hi : P.info? E = some i) (hz : i.zero = some z)
    (hsize : i.size = sz) (hby : i.bytes = bytes) (hzs : z.cells.size = sz) (hsz : 0 < sz)
    (ad : Addr) (m c : Nat) (news : List Value) (hl : news.length = m * sz) (hnews : ∀ j u,news[j]? = some u → w.cell? (ad.add j) = some u) (h1 : ∀ u ∈ news,u.oneCell' = true)
    (hm : 0 < m) (h63 : n + m ≤ maxLen) (hbytes : (n + m) * bytes ≤ 140737488355328) :
    ∃ g cap w' tag',(Builtin.append_ #[T,T] ty #[v,.slice (some ad) m c]).run P w = .ok (.slice (some ⟨g,0,none⟩) (n + m) cap) w' ∧
      Row tag' t E sz w' (.slice (some ⟨g,0,none⟩) (n + m) cap) (n + m) (ks ++ news) ∧ Fr (· = t) tag tag' w w' := by
  have key : ∃ g cap w',(Builtin.append_ #[T,T] ty #[v,.slice (some ad) m c]).run P w = .ok (.slice (some ⟨g,0,none⟩) (n + m) cap) w' ∧
      w'.ownsRow 0 E sz (.slice (some ⟨g,0,none⟩) (n + m) cap) (n + m) (ks ++ news) ∧
      (∃ row,w.grownBy w' row ∧ (∀ b,row = some b → tag b = t)) ∧ ((g < w.heap.size ∧ tag g = t) ∨ w.heap.size ≤ g) ∧ g < w'.heap.size := by
    rcases h with ⟨h,ht⟩ | ⟨⟨A,rfl,_⟩,rfl,rfl⟩
    · obtain ⟨g,cap,w',hr,h2,h3,h4,h5⟩ := run_append_lies (P := P) w T ty 0 E i z sz bytes hT hi hz hsize hby hzs hsz v n ks h ad m c news hl hnews h1 hm h63 hbytes (Nat.zero_le _) _ rfl
      refine ⟨g,cap,w',hr,h2,⟨_,h3,fun b hb => ht b hb⟩,?_,h5⟩
      rcases h4 with h4 | h4
      · left
        rcases h.2 with ⟨rfl,_⟩ | ⟨g',cap',cur,rfl,_,hg,_⟩
        · simp [Value.ownBlock] at h4
        · simp [Value.ownBlock] at h4
          subst h4
          exact ⟨lt_of_heap hg,ht _ rfl⟩
      · exact .inr (Nat.le_of_eq h4.symm)
    · cases A with
      | none =>
        obtain ⟨g,cap,w',hr,h2,h3,h4,h5⟩ := run_append_lies (P := P) w T ty 0 E i z sz bytes hT hi hz hsize hby hzs hsz (.slice none 0 0) 0 [] (World.ownsRow_nil _ _ _ _) ad m c news hl hnews h1 hm h63 hbytes (Nat.zero_le _) _ rfl
        refine ⟨g,cap,w',hr,h2,⟨_,h3,fun b hb => by simp [Value.ownBlock] at hb⟩,?_,h5⟩
        rcases h4 with h4 | h4
        · simp [Value.ownBlock] at h4
        · exact .inr (Nat.le_of_eq h4.symm)
      | some b =>
        obtain ⟨v',w',hr,h2,h3⟩ := run_append_arg_grows (P := P) w T ty E i z sz bytes hT hi hz hsize hby hzs hsz b 0 0 [] (by simp) (by simp) ad m c news hl hnews (by omega) (by omega) (by omega)
        obtain ⟨g,cap,rfl,hb,hlt⟩ := h2.form (by omega)
        refine ⟨g,cap,w',by simpa using hr,?_,⟨none,h3,by simp⟩,.inr hb,hlt⟩
        · rcases h2.2 with ⟨hx,_⟩ | ⟨g',cap',cur,hv,_,rest⟩
          · cases hx
          · exact ⟨h2.1,.inr ⟨g',cap',cur,hv,Nat.zero_le _,rest⟩⟩
  obtain ⟨g,cap,w',hr,hown,⟨row,hg,hrow⟩,hwhere,hlt⟩ := key
  rcases hwhere with ⟨hglt,htg⟩ | hnew
  · refine ⟨g,cap,w',tag,hr,.inl ⟨hown,fun b hb => ?_⟩,⟨hg.os,hg.tape,hg.output,hg.size,fun _ _ => rfl,fun b hb hs => hg.block b hb (fun e => hs (hrow b e.symm)),fun b hb => Nat.lt_of_lt_of_le (hok b hb) hg.size⟩⟩
    simp [Value.ownBlock] at hb
    subst hb
    exact htg
  · refine ⟨g,cap,w',give tag g t,hr,.inl ⟨hown,fun b hb => ?_⟩,⟨hg.os,hg.tape,hg.output,hg.size,fun b hb => give_ne _ _ (by omega),fun b hb hs => hg.block b hb (fun e => hs (hrow b e.symm)),fun b hb => ?_⟩⟩
    · simp [Value.ownBlock] at hb
      subst hb
      exact give_at _ _ _
    · by_cases e : b = g
      · omega
      · rw [give_ne _ _ e] at hb
        exact Nat.lt_of_lt_of_le (hok b hb) hg.size
end
section
variable {P : Program} {ops : Array Oper} {Q : Exit → Act → World → Prop} {tag : Nat → Tag} {t : Tag} {E sz : Nat} {w : World} {v : Value} {n : Nat} {ks : List Value}
theorem append_arm {oi : Oper} {N : Option Tmp} {a : Act} {K : Act → World → Prop} (hw : Region.wanted oi (yielded ops a.tmps) = true) (hN : oi.dst = N) (s x : Operand) (T : TypeId)
    (hop : oi.op = .call { callee := .builtin .append,args := #[s,x],argTypes := #[T,T] }) (hs : a.eval s = v) {ad : Addr} {m c : Nat} (hx : a.eval x = .slice (some ad) m c)
    (h : Row tag t E sz w v n ks) (hok : TagOk tag w) {i : TypeInfo} {z : Value} {bytes : Nat} (hT : P.underlying T = some (.slice E)) (hi : P.info? E = some i) (hz : i.zero = some z)
    (hsize : i.size = sz) (hby : i.bytes = bytes) (hzs : z.cells.size = sz) (hsz : 0 < sz)
    (news : List Value) (hl : news.length = m * sz) (hnews : ∀ j u,news[j]? = some u → w.cell? (ad.add j) = some u) (h1 : ∀ u ∈ news,u.oneCell' = true)
    (hm : 0 < m) (h63 : n + m ≤ maxLen) (hbytes : (n + m) * bytes ≤ 140737488355328)
    (hk : ∀ g cap w' tag',Row tag' t E sz w' (.slice (some ⟨g,0,none⟩) (n + m) cap) (n + m) (ks ++ news) → Fr (· = t) tag tag' w w' → K (a.put N (.slice (some ⟨g,0,none⟩) (n + m) cap)) w') :
    if Region.wanted oi (yielded ops a.tmps) = true then Oper.wp P oi a w K Q else K (a.put N undef) w := by
  rw [if_pos hw]
  subst hN
  obtain ⟨g,cap,w',tag',hr,h2,h3⟩ := h.append_run (P := P) hok T oi.type i z bytes hT hi hz hsize hby hzs hsz ad m c news hl hnews h1 hm h63 hbytes
  unfold Oper.wp execOp
  simp only [hop,resolve,invoke,builtin,Sem.run_bind,Sem.run_pure,Result.andThen_ok,List.map_toArray,List.map_cons,List.map_nil,hs,hx,hr]
  exact hk g cap w' tag' h2 h3
theorem append_list {rest : List Oper} {oi : Oper} {a : Act} (hg : oi.guard = none) (s x : Operand) (T : TypeId)
    (hop : oi.op = .call { callee := .builtin .append,args := #[s,x],argTypes := #[T,T] }) (hs : a.eval s = v) {ad : Addr} {m c : Nat} (hx : a.eval x = .slice (some ad) m c)
    (h : Row tag t E sz w v n ks) (hok : TagOk tag w) {i : TypeInfo} {z : Value} {bytes : Nat} (hT : P.underlying T = some (.slice E)) (hi : P.info? E = some i) (hz : i.zero = some z)
    (hsize : i.size = sz) (hby : i.bytes = bytes) (hzs : z.cells.size = sz) (hsz : 0 < sz)
    (news : List Value) (hl : news.length = m * sz) (hnews : ∀ j u,news[j]? = some u → w.cell? (ad.add j) = some u) (h1 : ∀ u ∈ news,u.oneCell' = true)
    (hm : 0 < m) (h63 : n + m ≤ maxLen) (hbytes : (n + m) * bytes ≤ 140737488355328)
    (hk : ∀ g cap w' tag',Row tag' t E sz w' (.slice (some ⟨g,0,none⟩) (n + m) cap) (n + m) (ks ++ news) → Fr (· = t) tag tag' w w' → wpList P ops Q rest (a.put oi.dst (.slice (some ⟨g,0,none⟩) (n + m) cap)) w') :
    wpList P ops Q (oi :: rest) a w :=
  wpList_plain hg fun K hK => by
    have hw : Region.wanted oi (yielded ops a.tmps) = true := by simp [Region.wanted,hg]
    have := append_arm (P := P) (ops := ops) (Q := Q) (K := K) hw rfl s x T hop hs hx h hok hT hi hz hsize hby hzs hsz news hl hnews h1 hm h63 hbytes (fun g cap w' tag' h2 h3 => hK _ _ (hk g cap w' tag' h2 h3))
    rw [if_pos hw] at this
    exact this
end
theorem Row.alloc {tag : Nat → Tag} {t : Tag} {E sz : Nat} {w : World} {v : Value} {n : Nat} {ks : List Value} (h : Row tag t E sz w v n ks) (o : Obj) : Row tag t E sz (w.alloc o) v n ks :=
  h.keep fun b hb ht => ⟨ht,Below.heap_alloc w o b hb⟩
theorem Row.drew {tag : Nat → Tag} {t : Tag} {E sz : Nat} {w : World} {v : Value} {n : Nat} {ks : List Value} (h : Row tag t E sz w v n ks) : Row tag t E sz w.drew v n ks := h
theorem news_at {w : World} {B : Nat} {l : List Value} {t : TypeId} {fr : Nat × Nat} (hb : w.heap[B]? = some (.cells l.toArray t fr)) : ∀ j u,l[j]? = some u → w.cell? ((⟨B,0,none⟩ : Addr).add j) = some u := fun j u hu =>
  World.news_of_block hb j u (by simpa using hu)
theorem Fr.cell {S : Tag → Prop} {tag tag' : Nat → Tag} {w w' : World} (h : Fr S tag tag' w w') {a : Addr} {v : Value} (ha : w.cell? a = some v) (hs : ¬ S (tag a.block)) : w'.cell? a = some v :=
  (World.cell?_of_block (h.block a.block (World.block_lt_of_cell? w a ha) hs)).trans ha
theorem Fr.cellF {tag tag' : Nat → Tag} {w w' : World} (h : Fr (fun _ => False) tag tag' w w') {a : Addr} {v : Value} (ha : w.cell? a = some v) : w'.cell? a = some v := h.cell ha (fun x => x)
theorem flat_get {α : Type} (enc : α → List Value) (sz : Nat) (hl : ∀ x,(enc x).length = sz) (i : Nat) (hi : i < sz) : ∀ (l : List α) (j : Nat) (x : α),l[j]? = some x → (l.flatMap enc)[j * sz + i]? = (enc x)[i]?
  | [],j,x,h => by simp at h
  | y :: l,0,x,h => by
    simp at h; subst h
    rw [List.flatMap_cons,List.getElem?_append_left (by rw [hl]; omega)]; simp
  | y :: l,j + 1,x,h => by
    simp at h
    rw [List.flatMap_cons,List.getElem?_append_right (by rw [hl,Nat.add_mul]; omega)]
    have := flat_get enc sz hl i hi l j x h
    rw [← this]
    congr 1
    rw [hl,Nat.add_mul]; omega
theorem flat_len {α : Type} (enc : α → List Value) (sz : Nat) (hl : ∀ x,(enc x).length = sz) : ∀ (l : List α),(l.flatMap enc).length = l.length * sz
  | [] => by simp
  | x :: l => by rw [List.flatMap_cons,List.length_append,hl,flat_len enc sz hl l,List.length_cons,Nat.add_mul]; omega
theorem Row.elem {tag : Nat → Tag} {t : Tag} {E sz : Nat} {w : World} {A : Option Addr} {n cap : Nat} {α : Type} {enc : α → List Value} {l : List α} (h : Row tag t E sz w (.slice A n cap) n (l.flatMap enc)) (hl : ∀ x,(enc x).length = sz) (hsz : 0 < sz)
    {j : Nat} {x : α} (hx : l[j]? = some x) : ∃ b,A = some ⟨b,0,none⟩ ∧ tag b = t ∧ b < w.heap.size ∧ ∀ i u,(enc x)[i]? = some u → w.cell? ⟨b,j * sz + i,none⟩ = some u := by
  have hlen := flat_len enc sz hl l
  have hj : j < l.length := (List.getElem?_eq_some_iff.1 hx).1
  have hpos : j * sz + sz ≤ l.length * sz := by
    have : (j + 1) * sz ≤ l.length * sz := Nat.mul_le_mul_right _ hj
    rw [Nat.add_mul] at this; omega
  obtain ⟨b,hA,ht,hb,_⟩ := h.cell rfl (j:=0) (by omega)
  refine ⟨b,hA,ht,hb,fun i u hu => ?_⟩
  have hi : i < sz := by rw [← hl x]; exact (List.getElem?_eq_some_iff.1 hu).1
  obtain ⟨b',hA',_,_,hc⟩ := h.cell rfl (j:=j * sz + i) (by omega)
  rw [hA] at hA'
  injection hA' with hA'; injection hA' with hA'
  subst hA'
  rw [hc,flat_get enc sz hl i hi l j x hx]; exact hu
structure Rd (sz : Nat) (w : World) (v : Value) (n : Nat) (ks : List Value) : Prop where
  len : ks.length = n * sz
  one : ∀ u ∈ ks,u.oneCell' = true
  form : (v = .slice none 0 0 ∧ n = 0) ∨ ∃ b off cap,v = .slice (some ⟨b,off,none⟩) n cap ∧ n ≤ cap ∧ cap ≤ maxLen ∧ ∀ j u,ks[j]? = some u → w.cell? ⟨b,off + j,none⟩ = some u
theorem Row.rd {tag : Nat → Tag} {t : Tag} {E sz : Nat} {w : World} {v : Value} {n : Nat} {ks : List Value} (h : Row tag t E sz w v n ks) (h1 : ∀ u ∈ ks,u.oneCell' = true) : Rd sz w v n ks := by
  refine ⟨h.len,h1,?_⟩
  have hc := @Row.cell _ _ _ _ _ _ _ _ h
  rcases h with ⟨h,_⟩ | ⟨⟨A,rfl,hA⟩,rfl,rfl⟩
  · rcases h.2 with ⟨rfl,rfl⟩ | ⟨g,cap,cur,rfl,_,_,h2,h3,_⟩
    · exact .inl ⟨rfl,rfl⟩
    · refine .inr ⟨g,0,cap,rfl,h2,h3,fun j u hu => ?_⟩
      have hj := (List.getElem?_eq_some_iff.1 hu).1
      obtain ⟨b,hb,_,_,he⟩ := hc rfl hj
      injection hb with hb
      injection hb with hb
      subst hb
      rw [Nat.zero_add,he]; exact hu
  · cases A with
    | none => exact .inl ⟨rfl,rfl⟩
    | some a =>
      obtain ⟨h2,h3⟩ := hA a rfl
      refine .inr ⟨a.block,0,0,?_,Nat.le_refl _,Nat.zero_le _,by simp⟩
      cases a
      simp at h2 h3
      subst h2 h3
      rfl
theorem Rd.keep {sz : Nat} {w w' : World} {v : Value} {n : Nat} {ks : List Value} (h : Rd sz w v n ks) (hk : ∀ a u,w.cell? a = some u → w'.cell? a = some u) : Rd sz w' v n ks := by
  refine ⟨h.len,h.one,?_⟩
  rcases h.form with h | ⟨b,off,cap,h1,h2,h3,h4⟩
  · exact .inl h
  · exact .inr ⟨b,off,cap,h1,h2,h3,fun j u hu => hk _ _ (h4 j u hu)⟩
theorem Rd.frF {tag tag' : Nat → Tag} {sz : Nat} {w w' : World} {v : Value} {n : Nat} {ks : List Value} (h : Rd sz w v n ks) (hF : Fr (fun _ => False) tag tag' w w') : Rd sz w' v n ks := h.keep fun _ _ => hF.cellF
theorem Rd.alloc {sz : Nat} {w : World} {v : Value} {n : Nat} {ks : List Value} (h : Rd sz w v n ks) (o : Obj) : Rd sz (w.alloc o) v n ks := h.keep fun _ _ x => ca x o
theorem Rd.slice {sz : Nat} {w : World} {v : Value} {n : Nat} {ks : List Value} (h : Rd sz w v n ks) : ∃ A cap,v = .slice A n cap ∧ n ≤ cap ∧ cap ≤ maxLen := by
  rcases h.form with ⟨rfl,rfl⟩ | ⟨b,off,cap,rfl,h2,h3,_⟩
  · exact ⟨none,0,rfl,Nat.le_refl _,Nat.zero_le _⟩
  · exact ⟨_,cap,rfl,h2,h3⟩
section
variable {P : Program} {ops : Array Oper} {Q : Exit → Act → World → Prop} {w : World}
theorem run_append_zero (T ty E : TypeId) (i : TypeInfo) (hT : P.underlying T = some (.slice E)) (hi : P.info? E = some i) (b : Option Addr) (n cap : Nat) (hn : n ≤ cap) (A : Option Addr) (c : Nat) :
    (Builtin.append_ #[T,T] ty #[.slice b n cap,.slice A 0 c]).run P w = .ok (.slice b n cap) w := by
  cases b <;> cases A <;> simp [Builtin.append_,run_underlying hT,sizeOf,typeInfo,hi,Builtin.lenOf,hn,Builtin.firstCells,loadCells,loadCellsFrom,storeCells]
theorem append0_arm {oi : Oper} {N : Option Tmp} {a : Act} {K : Act → World → Prop} (hw : Region.wanted oi (yielded ops a.tmps) = true) (hN : oi.dst = N) (s x : Operand) (T : TypeId)
    (hop : oi.op = .call { callee := .builtin .append,args := #[s,x],argTypes := #[T,T] }) {b : Option Addr} {n cap : Nat} (hs : a.eval s = .slice b n cap) {A : Option Addr} {c : Nat} (hx : a.eval x = .slice A 0 c)
    {E : TypeId} {i : TypeInfo} (hT : P.underlying T = some (.slice E)) (hi : P.info? E = some i) (hn : n ≤ cap) (hk : K (a.put N (.slice b n cap)) w) :
    if Region.wanted oi (yielded ops a.tmps) = true then Oper.wp P oi a w K Q else K (a.put N undef) w := by
  rw [if_pos hw]
  subst hN
  have hr := run_append_zero (P := P) (w := w) T oi.type E i hT hi b n cap hn A c
  unfold Oper.wp execOp
  simp only [hop,resolve,invoke,builtin,Sem.run_bind,Sem.run_pure,Result.andThen_ok,List.map_toArray,List.map_cons,List.map_nil,hs,hx,hr]
  exact hk
theorem append0_list {rest : List Oper} {oi : Oper} {a : Act} (hg : oi.guard = none) (s x : Operand) (T : TypeId)
    (hop : oi.op = .call { callee := .builtin .append,args := #[s,x],argTypes := #[T,T] }) {b : Option Addr} {n cap : Nat} (hs : a.eval s = .slice b n cap) {A : Option Addr} {c : Nat} (hx : a.eval x = .slice A 0 c)
    {E : TypeId} {i : TypeInfo} (hT : P.underlying T = some (.slice E)) (hi : P.info? E = some i) (hn : n ≤ cap) (hk : wpList P ops Q rest (a.put oi.dst (.slice b n cap)) w) : wpList P ops Q (oi :: rest) a w :=
  wpList_plain hg fun K hK => by
    have hw : Region.wanted oi (yielded ops a.tmps) = true := by simp [Region.wanted,hg]
    have := append0_arm (P := P) (ops := ops) (Q := Q) (K := K) hw rfl s x T hop hs hx hT hi hn (hK _ _ hk)
    rw [if_pos hw] at this
    exact this
end
theorem add_lit (b o j : Nat) : (⟨b,o,none⟩ : Addr).add j = ⟨b,o + j,none⟩ := by unfold Addr.add; split <;> simp_all
section
variable {P : Program} {ops : Array Oper} {Q : Exit → Act → World → Prop} {w : World} {tag : Nat → Tag} {E sz : Nat}
theorem append_bare_run (t : Tag) (A : Option Addr) (hok : TagOk tag w) (T ty : TypeId) (i : TypeInfo) (z : Value) (bytes : Nat) (hT : P.underlying T = some (.slice E)) (hi : P.info? E = some i) (hz : i.zero = some z)
    (hsize : i.size = sz) (hby : i.bytes = bytes) (hzs : z.cells.size = sz) (hsz : 0 < sz)
    (ad : Addr) (m c : Nat) (news : List Value) (hl : news.length = m * sz) (hnews : ∀ j u,news[j]? = some u → w.cell? (ad.add j) = some u) (h1 : ∀ u ∈ news,u.oneCell' = true)
    (hm : 0 < m) (h63 : m ≤ maxLen) (hbytes : m * bytes ≤ 140737488355328) :
    ∃ g cap w' tag',(Builtin.append_ #[T,T] ty #[.slice A 0 0,.slice (some ad) m c]).run P w = .ok (.slice (some ⟨g,0,none⟩) m cap) w' ∧
      Row tag' t E sz w' (.slice (some ⟨g,0,none⟩) m cap) m news ∧ Fr (fun _ => False) tag tag' w w' ∧ w.heap.size ≤ g := by
  have key : ∃ g cap w',(Builtin.append_ #[T,T] ty #[.slice A 0 0,.slice (some ad) m c]).run P w = .ok (.slice (some ⟨g,0,none⟩) m cap) w' ∧
      w'.ownsRow 0 E sz (.slice (some ⟨g,0,none⟩) m cap) m news ∧ w.grownBy w' none ∧ w.heap.size ≤ g ∧ g < w'.heap.size := by
    cases A with
    | none =>
      obtain ⟨g,cap,w',hr,h2,h3,h4,h5⟩ := run_append_lies (P := P) w T ty 0 E i z sz bytes hT hi hz hsize hby hzs hsz (.slice none 0 0) 0 [] (World.ownsRow_nil _ _ _ _) ad m c news hl hnews h1 hm (by simpa using h63) (by simpa using hbytes) (Nat.zero_le _) _ rfl
      refine ⟨g,cap,w',by simpa using hr,by simpa using h2,by simpa [Value.ownBlock] using h3,?_,h5⟩
      rcases h4 with h4 | h4
      · simp [Value.ownBlock] at h4
      · omega
    | some b =>
      obtain ⟨v',w',hr,h2,h3⟩ := run_append_arg_grows (P := P) w T ty E i z sz bytes hT hi hz hsize hby hzs hsz b 0 0 [] (by simp) (by simp) ad m c news hl hnews (by omega) (by simpa using h63) (by simpa using hbytes)
      obtain ⟨g,cap,rfl,hb,hlt⟩ := h2.form (by omega)
      refine ⟨g,cap,w',by simpa using hr,?_,h3,hb,hlt⟩
      rcases h2.2 with ⟨hx,_⟩ | ⟨g',cap',cur,hv,_,rest⟩
      · cases hx
      · refine ⟨by simpa using h2.1,.inr ⟨g',cap',cur,?_,Nat.zero_le _,?_⟩⟩
        · simpa using hv
        · simpa using rest
  obtain ⟨g,cap,w',hr,hown,hg,hge,hlt⟩ := key
  refine ⟨g,cap,w',give tag g t,hr,.inl ⟨hown,fun b hb => ?_⟩,⟨hg.os,hg.tape,hg.output,hg.size,fun b hb => give_ne _ _ (by omega),fun b hb hs => hg.block b hb (by simp),fun b hb => ?_⟩,hge⟩
  · simp [Value.ownBlock] at hb
    subst hb
    exact give_at _ _ _
  · by_cases e : b = g
    · omega
    · rw [give_ne _ _ e] at hb
      exact Nat.lt_of_lt_of_le (hok b hb) hg.size
theorem append_bare_arm (t : Tag) {oi : Oper} {N : Option Tmp} {a : Act} {K : Act → World → Prop} (hw : Region.wanted oi (yielded ops a.tmps) = true) (hN : oi.dst = N) (s x : Operand) (T : TypeId)
    (hop : oi.op = .call { callee := .builtin .append,args := #[s,x],argTypes := #[T,T] }) {A : Option Addr} (hs : a.eval s = .slice A 0 0) {ad : Addr} {m c : Nat} (hx : a.eval x = .slice (some ad) m c)
    (hok : TagOk tag w) {i : TypeInfo} {z : Value} {bytes : Nat} (hT : P.underlying T = some (.slice E)) (hi : P.info? E = some i) (hz : i.zero = some z)
    (hsize : i.size = sz) (hby : i.bytes = bytes) (hzs : z.cells.size = sz) (hsz : 0 < sz)
    (news : List Value) (hl : news.length = m * sz) (hnews : ∀ j u,news[j]? = some u → w.cell? (ad.add j) = some u) (h1 : ∀ u ∈ news,u.oneCell' = true)
    (hm : 0 < m) (h63 : m ≤ maxLen) (hbytes : m * bytes ≤ 140737488355328)
    (hk : ∀ g cap w' tag',Row tag' t E sz w' (.slice (some ⟨g,0,none⟩) m cap) m news → Fr (fun _ => False) tag tag' w w' → w.heap.size ≤ g → K (a.put N (.slice (some ⟨g,0,none⟩) m cap)) w') :
    if Region.wanted oi (yielded ops a.tmps) = true then Oper.wp P oi a w K Q else K (a.put N undef) w := by
  rw [if_pos hw]
  subst hN
  obtain ⟨g,cap,w',tag',hr,h2,h3,h4⟩ := append_bare_run (P := P) t A hok T oi.type i z bytes hT hi hz hsize hby hzs hsz ad m c news hl hnews h1 hm h63 hbytes
  unfold Oper.wp execOp
  simp only [hop,resolve,invoke,builtin,Sem.run_bind,Sem.run_pure,Result.andThen_ok,List.map_toArray,List.map_cons,List.map_nil,hs,hx,hr]
  exact hk g cap w' tag' h2 h3 h4
theorem append_bare_list (t : Tag) {rest : List Oper} {oi : Oper} {a : Act} (hg : oi.guard = none) (s x : Operand) (T : TypeId)
    (hop : oi.op = .call { callee := .builtin .append,args := #[s,x],argTypes := #[T,T] }) {A : Option Addr} (hs : a.eval s = .slice A 0 0) {ad : Addr} {m c : Nat} (hx : a.eval x = .slice (some ad) m c)
    (hok : TagOk tag w) {i : TypeInfo} {z : Value} {bytes : Nat} (hT : P.underlying T = some (.slice E)) (hi : P.info? E = some i) (hz : i.zero = some z)
    (hsize : i.size = sz) (hby : i.bytes = bytes) (hzs : z.cells.size = sz) (hsz : 0 < sz)
    (news : List Value) (hl : news.length = m * sz) (hnews : ∀ j u,news[j]? = some u → w.cell? (ad.add j) = some u) (h1 : ∀ u ∈ news,u.oneCell' = true)
    (hm : 0 < m) (h63 : m ≤ maxLen) (hbytes : m * bytes ≤ 140737488355328)
    (hk : ∀ g cap w' tag',Row tag' t E sz w' (.slice (some ⟨g,0,none⟩) m cap) m news → Fr (fun _ => False) tag tag' w w' → w.heap.size ≤ g → wpList P ops Q rest (a.put oi.dst (.slice (some ⟨g,0,none⟩) m cap)) w') :
    wpList P ops Q (oi :: rest) a w :=
  wpList_plain hg fun K hK => by
    have hw : Region.wanted oi (yielded ops a.tmps) = true := by simp [Region.wanted,hg]
    have := append_bare_arm (P := P) (ops := ops) (Q := Q) (K := K) t hw rfl s x T hop hs hx hok hT hi hz hsize hby hzs hsz news hl hnews h1 hm h63 hbytes (fun g cap w' tag' h2 h3 h4 => hK _ _ (hk g cap w' tag' h2 h3 h4))
    rw [if_pos hw] at this
    exact this
end
section
variable {P : Program} {ops : Array Oper} {Q : Exit → Act → World → Prop} {w : World} {E : Nat}
theorem zeroCells_mem {z : Array Value} {m : Nat} {u : Value} (hz : 0 < z.size) (h : u ∈ (Builtin.zeroCells z m).toList) : u ∈ z := by
  simp only [Builtin.zeroCells,Array.toList_map,Array.toList_range,List.mem_map,List.mem_range] at h
  obtain ⟨i,_,rfl⟩ := h
  have : i % z.size < z.size := Nat.mod_lt _ hz
  rw [getElem!_pos z _ this]
  exact Array.getElem_mem this
theorem clear_list {rest : List Oper} {oi : Oper} {a : Act} (hg : oi.guard = none) (x : Operand) (T : TypeId)
    (hop : oi.op = .call { callee := .builtin .clear,args := #[x],argTypes := #[T] }) {b o m c : Nat} (hx : a.eval x = .slice (some ⟨b,o,none⟩) m c)
    {i : TypeInfo} {z : Value} (hT : P.underlying T = some (.slice E)) (hi : P.info? E = some i) (hz : i.zero = some z) (hzs : 0 < z.cells.size) (h1 : ∀ u ∈ z.cells,u.oneCell' = true)
    {cur : Array Value} (hb : w.heap[b]? = some (.cells cur E (0,0))) (hfit : o + m * z.cells.size ≤ cur.size) (hm : 0 < m)
    (hk : ∀ cur2 : Array Value,cur2.size = cur.size → cur2.toList.take o = cur.toList.take o → wpList P ops Q rest (a.put oi.dst (.tuple #[])) (w.setRow b cur2)) : wpList P ops Q (oi :: rest) a w :=
  wpList_plain hg fun K hK => by
    have hsz : (Builtin.zeroCells z.cells m).toList.length = m * z.cells.size := by simp [Builtin.zeroCells]
    have hst := run_storeCells_at (P := P) b o E (Builtin.zeroCells z.cells m).toList 0 cur w hb (by rw [hsz]; omega) (fun v hv => h1 v (zeroCells_mem hzs hv))
    have hr : (Builtin.clear_ #[T] oi.type #[.slice (some ⟨b,o,none⟩) m c]).run P w = .ok (.tuple #[]) (w.setRow b (cur.toList.take (o + 0) ++ (Builtin.zeroCells z.cells m).toList ++ cur.toList.drop (o + 0 + (Builtin.zeroCells z.cells m).toList.length)).toArray) := by
      cases m with
      | zero => omega
      | succ m => simp [Builtin.clear_,run_underlying hT,zeroValue,typeInfo,hi,hz,hst]
    unfold Oper.wp execOp
    simp only [hop,resolve,invoke,builtin,Sem.run_bind,Sem.run_pure,Result.andThen_ok,List.map_toArray,List.map_cons,List.map_nil,hx,hr]
    refine hK _ _ (hk _ ?_ ?_)
    · rw [List.size_toArray,List.length_append,List.length_append,List.length_take,List.length_drop,hsz,Array.length_toList]; omega
    · rw [Nat.add_zero,List.append_assoc,List.take_append_of_le_length (by rw [List.length_take,Array.length_toList]; omega),List.take_take,Nat.min_self]
end
theorem Fr.setRow {S : Tag → Prop} {tag : Nat → Tag} {w : World} (h : TagOk tag w) {b : Nat} (hb : S (tag b)) (cs : Array Value) : Fr S tag tag w (w.setRow b cs) :=
  ⟨rfl,rfl,rfl,by simp,fun _ _ => rfl,fun b' _ hs => setRow_other w b b' cs (fun e => hs (e ▸ hb)),fun b' hb' => by simpa using h b' hb'⟩
section
variable {P : Program} {ops : Array Oper} {Q : Exit → Act → World → Prop} {w : World} {tag : Nat → Tag} {E sz : Nat}
theorem append_full_run (t : Tag) (A : Option Addr) (n : Nat) (olds : List Value) (hr : Rd sz w (.slice A n n) n olds) (hok : TagOk tag w) (T ty : TypeId) (i : TypeInfo) (z : Value) (bytes : Nat) (hT : P.underlying T = some (.slice E)) (hi : P.info? E = some i) (hz : i.zero = some z)
    (hsize : i.size = sz) (hby : i.bytes = bytes) (hzs : z.cells.size = sz) (hsz : 0 < sz)
    (ad : Addr) (m c : Nat) (news : List Value) (hl : news.length = m * sz) (hnews : ∀ j u,news[j]? = some u → w.cell? (ad.add j) = some u) (h1 : ∀ u ∈ news,u.oneCell' = true)
    (hm : 0 < m) (h63 : n + m ≤ maxLen) (hbytes : (n + m) * bytes ≤ 140737488355328) :
    ∃ g cap w' tag',(Builtin.append_ #[T,T] ty #[.slice A n n,.slice (some ad) m c]).run P w = .ok (.slice (some ⟨g,0,none⟩) (n + m) cap) w' ∧
      Row tag' t E sz w' (.slice (some ⟨g,0,none⟩) (n + m) cap) (n + m) (olds ++ news) ∧ Fr (fun _ => False) tag tag' w w' ∧ w.heap.size ≤ g := by
  rcases hr.form with ⟨hv,rfl⟩ | ⟨b,off,cap0,hv,h2,h3,h4⟩
  · injection hv with hv _ _
    subst hv
    obtain rfl : olds = [] := List.eq_nil_of_length_eq_zero (by have := hr.len; omega)
    have := append_bare_run (P := P) t none hok T ty i z bytes hT hi hz hsize hby hzs hsz ad m c news hl hnews h1 hm (by simpa using h63) (by simpa using hbytes)
    simpa using this
  · injection hv with hv _ _
    subst hv
    obtain ⟨v',w',hr',h5,h6⟩ := run_append_arg_grows (P := P) w T ty E i z sz bytes hT hi hz hsize hby hzs hsz ⟨b,off,none⟩ n n olds hr.len (fun j u hu => by rw [add_lit]; exact h4 j u hu) ad m c news hl hnews (by omega) h63 hbytes
    obtain ⟨g,cap,rfl,hb,hlt⟩ := h5.form (by omega)
    refine ⟨g,cap,w',give tag g t,hr',.inl ⟨?_,fun b hb => ?_⟩,⟨h6.os,h6.tape,h6.output,h6.size,fun b hb => give_ne _ _ (by omega),fun b hb hs => h6.block b hb (by simp),fun b hb => ?_⟩,hb⟩
    · rcases h5.2 with ⟨hx,_⟩ | ⟨g',cap',cur,hv,_,rest⟩
      · cases hx
      · exact ⟨h5.1,.inr ⟨g',cap',cur,hv,Nat.zero_le _,rest⟩⟩
    · simp [Value.ownBlock] at hb
      subst hb
      exact give_at _ _ _
    · by_cases e : b = g
      · omega
      · rw [give_ne _ _ e] at hb
        exact Nat.lt_of_lt_of_le (hok b hb) h6.size
theorem append_full_arm (t : Tag) {oi : Oper} {N : Option Tmp} {a : Act} {K : Act → World → Prop} (hw : Region.wanted oi (yielded ops a.tmps) = true) (hN : oi.dst = N) (s x : Operand) (T : TypeId)
    (hop : oi.op = .call { callee := .builtin .append,args := #[s,x],argTypes := #[T,T] }) {A : Option Addr} {n : Nat} (hs : a.eval s = .slice A n n) {ad : Addr} {m c : Nat} (hx : a.eval x = .slice (some ad) m c)
    {olds : List Value} (hr : Rd sz w (.slice A n n) n olds) (hok : TagOk tag w) {i : TypeInfo} {z : Value} {bytes : Nat} (hT : P.underlying T = some (.slice E)) (hi : P.info? E = some i) (hz : i.zero = some z)
    (hsize : i.size = sz) (hby : i.bytes = bytes) (hzs : z.cells.size = sz) (hsz : 0 < sz)
    (news : List Value) (hl : news.length = m * sz) (hnews : ∀ j u,news[j]? = some u → w.cell? (ad.add j) = some u) (h1 : ∀ u ∈ news,u.oneCell' = true)
    (hm : 0 < m) (h63 : n + m ≤ maxLen) (hbytes : (n + m) * bytes ≤ 140737488355328)
    (hk : ∀ g cap w' tag',Row tag' t E sz w' (.slice (some ⟨g,0,none⟩) (n + m) cap) (n + m) (olds ++ news) → Fr (fun _ => False) tag tag' w w' → w.heap.size ≤ g → K (a.put N (.slice (some ⟨g,0,none⟩) (n + m) cap)) w') :
    if Region.wanted oi (yielded ops a.tmps) = true then Oper.wp P oi a w K Q else K (a.put N undef) w := by
  rw [if_pos hw]
  subst hN
  obtain ⟨g,cap,w',tag',hr,h2,h3,h4⟩ := append_full_run (P := P) t A n olds hr hok T oi.type i z bytes hT hi hz hsize hby hzs hsz ad m c news hl hnews h1 hm h63 hbytes
  unfold Oper.wp execOp
  simp only [hop,resolve,invoke,builtin,Sem.run_bind,Sem.run_pure,Result.andThen_ok,List.map_toArray,List.map_cons,List.map_nil,hs,hx,hr]
  exact hk g cap w' tag' h2 h3 h4
end
theorem heap_alloc_at1 (w : World) (x y : Obj) : ((w.alloc x).alloc y).heap[w.heap.size + 1]? = some y := by
  have := heap_alloc_at (w.alloc x) y
  rw [World.size_alloc] at this
  exact this
theorem Rd.drew {sz : Nat} {w : World} {v : Value} {n : Nat} {ks : List Value} (h : Rd sz w v n ks) : Rd sz w.drew v n ks := h.keep fun _ _ x => x
end Go.Ng
namespace Go.Ng
structure Clm where
  item : Int
  version : Int
  deriving DecidableEq
structure Post where
  kind : Int
  src : Int
  dst : Int
  prop : Int
  item : Int
  version : Int
  deriving DecidableEq
structure Came where
  kind : Int
  prop : Int
  item : Int
  deriving DecidableEq
structure Asker where
  prop : Int
  place : Int
  deriving DecidableEq
structure ItemM where
  ptr : Nat
  tm : Nat
  held : Bool
  lk : Asker
  queue : List Asker
  version : Int
  through : List Int
structure PropM where
  ptr : Nat
  claims : List Clm
  state : Int
  granted : Nat
structure PlaceM where
  ptr : Nat
  pm : Nat
  no : Int
  sites : List Int
  items : List (Option ItemM)
  props : List (Int × PropM)
  out : List Post
  came : List Came
namespace PlaceM
def send (P : PlaceM) (kind to prop item version : Int) : PlaceM := { P with out := P.out ++ [⟨kind,P.no,to,prop,item,version⟩] }
def happen (P : PlaceM) (kind prop item : Int) : PlaceM := { P with came := P.came ++ [⟨kind,prop,item⟩] }
def setItem (P : PlaceM) (j : Nat) (it : ItemM) : PlaceM := { P with items := P.items.set j (some it) }
def item (P : PlaceM) (j : Nat) : Option ItemM := P.items.getD j none
def site (P : PlaceM) (j : Int) : Int := P.sites.getD j.toNat 0
end PlaceM
def find (l : List (Int × PropM)) (n : Int) : Option PropM := (l.find? (fun x => x.1 == n)).map (·.2)
def upd (l : List (Int × PropM)) (n : Int) (x : PropM) : List (Int × PropM) := l.map fun y => if y.1 = n then (n,x) else y
end Go.Ng
namespace Go.Ng
def Post.cells (p : Post) : List Value := [.int .i64 p.kind,.int .i64 p.src,.int .i64 p.dst,.int .i64 p.prop,.int .i64 p.item,.int .i64 p.version]
def Came.cells (p : Came) : List Value := [.int .i64 p.kind,.int .i64 p.prop,.int .i64 p.item]
def Clm.cells (p : Clm) : List Value := [.int .i64 p.item,.int .i64 p.version]
def Asker.cells (p : Asker) : List Value := [.int .i64 p.prop,.int .i64 p.place]
end Go.Ng
namespace Go.Proofs.Ytclkokkppgchfaa
open Go.RowKit Go.Ng
def iv (n : Int) : Value := .int .i64 n
def ints (l : List Int) : List Value := l.map fun n => .int .i64 n
def posts (l : List Post) : List Value := l.flatMap Post.cells
def cames (l : List Came) : List Value := l.flatMap Came.cells
def claims (l : List Clm) : List Value := l.flatMap Clm.cells
def askers (l : List Asker) : List Value := l.flatMap Asker.cells
def itemPtr : Option ItemM → Value
  | none => .pointer none
  | some it => .pointer (some ⟨it.ptr,0,none⟩)
def MapIs (w : World) (b : Nat) (l : List (Value × Value)) : Prop := ∃ es clock,w.heap[b]? = some (.map es clock) ∧ es.toList.map (fun e => (e.key,e.val)) = l
structure ItemRep (tag : Nat → Tag) (k : Nat) (w : World) (j : Nat) (it : ItemM) : Prop where
  tptr : tag it.ptr = (k,7,(j : Int))
  ttm : tag it.tm = (k,9,(j : Int))
  cells : ∃ qv,w.heap[it.ptr]? = some (.cells #[.bool it.held,.int .i64 it.lk.prop,.int .i64 it.lk.place,qv,.int .i64 it.version,.map (some it.tm)] 121 (0,0)) ∧
    Row tag (k,8,(j : Int)) 116 2 w qv it.queue.length (askers it.queue)
  map : MapIs w it.tm (it.through.map fun n => (.int .i64 n,.bool true))
structure PropRep (tag : Nat → Tag) (k : Nat) (w : World) (n : Int) (x : PropM) : Prop where
  tptr : tag x.ptr = (k,10,n)
  cells : ∃ cv,w.heap[x.ptr]? = some (.cells #[cv,.int .i64 x.state,.int .i64 x.granted] 133 (0,0)) ∧
    Row tag (k,11,n) 69 2 w cv x.claims.length (claims x.claims)
structure PRep (tag : Nat → Tag) (k : Nat) (w : World) (P : PlaceM) : Prop where
  k0 : k ≠ 0
  tptr : tag P.ptr = (k,1,0)
  tpm : tag P.pm = (k,4,0)
  cells : ∃ sv iv ov cv,w.heap[P.ptr]? = some (.cells #[.int .i64 P.no,sv,iv,.map (some P.pm),ov,cv] 113 (0,0)) ∧
    Row tag (k,2,0) 3 1 w sv P.sites.length (ints P.sites) ∧ Row tag (k,3,0) 114 1 w iv P.items.length (P.items.map itemPtr) ∧
    Row tag (k,5,0) 49 6 w ov P.out.length (posts P.out) ∧ Row tag (k,6,0) 106 3 w cv P.came.length (cames P.came)
  items : ∀ j it,P.items[j]? = some (some it) → ItemRep tag k w j it
  pm : MapIs w P.pm (P.props.map fun x => (.int .i64 x.1,.pointer (some ⟨x.2.ptr,0,none⟩)))
  props : ∀ n x,(n,x) ∈ P.props → PropRep tag k w n x
section
variable {S : Tag → Prop} {tag tag' : Nat → Tag} {w w' : World} {k : Nat}
theorem MapIs.keep {b : Nat} {l : List (Value × Value)} (h : MapIs w b l) (hb : w'.heap[b]? = w.heap[b]?) : MapIs w' b l := by
  obtain ⟨es,c,h1,h2⟩ := h
  exact ⟨es,c,hb.trans h1,h2⟩
theorem MapIs.lt {b : Nat} {l : List (Value × Value)} (h : MapIs w b l) : b < w.heap.size := by
  obtain ⟨es,c,h1,_⟩ := h
  exact lt_of_heap h1
theorem MapIs.fr {b : Nat} {l : List (Value × Value)} (h : MapIs w b l) (hf : Fr S tag tag' w w') (hS : ¬ S (tag b)) : MapIs w' b l := h.keep (hf.block b h.lt hS)
theorem ItemRep.fr {j : Nat} {it : ItemM} (h : ItemRep tag k w j it) (hf : Fr S tag tag' w w') (h7 : ¬ S (k,7,j)) (h8 : ¬ S (k,8,j)) (h9 : ¬ S (k,9,j)) : ItemRep tag' k w' j it := by
  obtain ⟨qv,hc,hq⟩ := h.cells
  exact ⟨(hf.tag_eq hc).trans h.tptr,(hf.same _ h.map.lt).trans h.ttm,⟨qv,hf.heap hc (by rw [h.tptr]; exact h7),hq.fr hf h8⟩,h.map.fr hf (by rw [h.ttm]; exact h9)⟩
theorem PropRep.fr {n : Int} {x : PropM} (h : PropRep tag k w n x) (hf : Fr S tag tag' w w') (h10 : ¬ S (k,10,n)) (h11 : ¬ S (k,11,n)) : PropRep tag' k w' n x := by
  obtain ⟨cv,hc,hq⟩ := h.cells
  exact ⟨(hf.tag_eq hc).trans h.tptr,⟨cv,hf.heap hc (by rw [h.tptr]; exact h10),hq.fr hf h11⟩⟩
theorem PRep.fr {P : PlaceM} (h : PRep tag k w P) (hf : Fr S tag tag' w w') (hS : ∀ r i,¬ S (k,r,i)) : PRep tag' k w' P := by
  obtain ⟨sv,iv,ov,cv,h1,h2,h3,h4,h5⟩ := h.cells
  exact ⟨h.k0,(hf.tag_eq h1).trans h.tptr,(hf.same _ h.pm.lt).trans h.tpm,⟨sv,iv,ov,cv,hf.heap h1 (by rw [h.tptr]; exact hS _ _),h2.fr hf (hS _ _),h3.fr hf (hS _ _),h4.fr hf (hS _ _),h5.fr hf (hS _ _)⟩,
    fun j it hj => (h.items j it hj).fr hf (hS _ _) (hS _ _) (hS _ _),h.pm.fr hf (by rw [h.tpm]; exact hS _ _),fun n x hx => (h.props n x hx).fr hf (hS _ _) (hS _ _)⟩
theorem PRep.told {P : PlaceM} (h : PRep tag k w P) (hf : Fr S tag tag' w w') (hS : ∀ t,S t → t = (k,1,0) ∨ t = (k,5,0) ∨ t = (k,6,0)) (out : List Post) (came : List Came)
    (hc : ∀ sv iv ov cv,w.heap[P.ptr]? = some (.cells #[.int .i64 P.no,sv,iv,.map (some P.pm),ov,cv] 113 (0,0)) → ∃ ov cv,w'.heap[P.ptr]? = some (.cells #[.int .i64 P.no,sv,iv,.map (some P.pm),ov,cv] 113 (0,0)) ∧
      Row tag' (k,5,0) 49 6 w' ov out.length (posts out) ∧ Row tag' (k,6,0) 106 3 w' cv came.length (cames came)) :
    PRep tag' k w' { P with out := out,came := came } := by
  obtain ⟨sv,iv,ov,cv,h1,h2,h3,h4,h5⟩ := h.cells
  obtain ⟨ov',cv',k1,k4,k5⟩ := hc sv iv ov cv h1
  have no : ∀ r i,r ≠ 1 → r ≠ 5 → r ≠ 6 → ¬ S (k,r,i) := fun r i h1 h5 h6 hs => by
    rcases hS _ hs with e | e | e <;> simp_all
  exact ⟨h.k0,(hf.tag_eq h1).trans h.tptr,(hf.same _ h.pm.lt).trans h.tpm,⟨sv,iv,ov',cv',k1,h2.fr hf (no _ _ (by decide) (by decide) (by decide)),h3.fr hf (no _ _ (by decide) (by decide) (by decide)),k4,k5⟩,
    fun j it hj => (h.items j it hj).fr hf (no _ _ (by decide) (by decide) (by decide)) (no _ _ (by decide) (by decide) (by decide)) (no _ _ (by decide) (by decide) (by decide)),
    h.pm.fr hf (by rw [h.tpm]; exact no _ _ (by decide) (by decide) (by decide)),fun n x hx => (h.props n x hx).fr hf (no _ _ (by decide) (by decide) (by decide)) (no _ _ (by decide) (by decide) (by decide))⟩
end
section
variable {S : Tag → Prop} {tag tag' : Nat → Tag} {w w' : World} {k : Nat}
theorem set_ptr {l : List (Option ItemM)} {j : Nat} {it it' : ItemM} (hj : l[j]? = some (some it)) (hp : it'.ptr = it.ptr) : (l.set j (some it')).map itemPtr = l.map itemPtr := by
  apply List.ext_getElem?
  intro i
  rw [List.getElem?_map,List.getElem?_map,List.getElem?_set]
  by_cases e : j = i
  · subst e
    have hl := (List.getElem?_eq_some_iff.1 hj).1
    rw [hj]
    simp [hl,itemPtr,hp]
  · simp [e]
theorem PRep.item_upd {P : PlaceM} {j : Nat} {it it' : ItemM} (h : PRep tag k w P) (hj : P.items[j]? = some (some it)) (hptr : it'.ptr = it.ptr) (hI : ItemRep tag' k w' j it') (hf : Fr S tag tag' w w')
    (hS : ∀ t,S t → t = (k,7,(j : Int)) ∨ t = (k,8,(j : Int)) ∨ t = (k,9,(j : Int))) : PRep tag' k w' (P.setItem j it') := by
  obtain ⟨sv,iv,ov,cv,h1,h2,h3,h4,h5⟩ := h.cells
  have no : ∀ r i,r ≠ 7 → r ≠ 8 → r ≠ 9 → ¬ S (k,r,i) := fun r i h1 h5 h6 hs => by
    rcases hS _ hs with e | e | e <;> simp_all
  have no2 : ∀ r i,i ≠ (j : Int) → ¬ S (k,r,i) := fun r i h1 hs => by
    rcases hS _ hs with e | e | e <;> simp_all
  refine ⟨h.k0,(hf.tag_eq h1).trans h.tptr,(hf.same _ h.pm.lt).trans h.tpm,⟨sv,iv,ov,cv,hf.heap h1 (show ¬ S (tag P.ptr) by rw [h.tptr]; exact no _ _ (by decide) (by decide) (by decide)),h2.fr hf (no _ _ (by decide) (by decide) (by decide)),?_,h4.fr hf (no _ _ (by decide) (by decide) (by decide)),h5.fr hf (no _ _ (by decide) (by decide) (by decide))⟩,
    fun i x hx => ?_,h.pm.fr hf (show ¬ S (tag P.pm) by rw [h.tpm]; exact no _ _ (by decide) (by decide) (by decide)),fun n x hx => (h.props n x hx).fr hf (no _ _ (by decide) (by decide) (by decide)) (no _ _ (by decide) (by decide) (by decide))⟩
  · have := h3.fr hf (no _ _ (by decide) (by decide) (by decide))
    show Row tag' (k,3,0) 114 1 w' iv (P.items.set j (some it')).length ((P.items.set j (some it')).map itemPtr)
    rw [set_ptr hj hptr,List.length_set]
    exact this
  · have hx' : (P.items.set j (some it'))[i]? = some (some x) := hx
    rw [List.getElem?_set] at hx'
    by_cases e : j = i
    · subst e
      have hl := (List.getElem?_eq_some_iff.1 hj).1
      simp [hl] at hx'
      subst hx'
      exact hI
    · rw [if_neg e] at hx'
      exact (h.items i x hx').fr hf (no2 _ _ (by omega)) (no2 _ _ (by omega)) (no2 _ _ (by omega))
theorem upd_mem {l : List (Int × PropM)} {n m : Int} {x y : PropM} (h : (m,y) ∈ upd l n x) : (m = n ∧ y = x) ∨ (m ≠ n ∧ (m,y) ∈ l) := by
  simp only [upd,List.mem_map] at h
  obtain ⟨z,hz,he⟩ := h
  by_cases e : z.1 = n
  · rw [if_pos e] at he; injection he with h1 h2; exact .inl ⟨h1.symm,h2.symm⟩
  · rw [if_neg e] at he; subst he; exact .inr ⟨e,hz⟩
theorem upd_ptr {l : List (Int × PropM)} {n : Int} {x x' : PropM} (hu : ∀ y,(n,y) ∈ l → y = x) (hp : x'.ptr = x.ptr) :
    (upd l n x').map (fun x => (Value.int .i64 x.1,Value.pointer (some ⟨x.2.ptr,0,none⟩))) = l.map (fun x => (Value.int .i64 x.1,Value.pointer (some ⟨x.2.ptr,0,none⟩))) := by
  rw [upd,List.map_map]
  refine List.map_congr_left fun y hy => ?_
  simp only [Function.comp]
  by_cases e : y.1 = n
  · rw [if_pos e]
    have := hu y.2 (by rw [← e]; exact hy)
    rw [hp,e,this]
  · rw [if_neg e]
theorem PRep.prop_upd {P : PlaceM} {n : Int} {x x' : PropM} (h : PRep tag k w P) (hu : ∀ y,(n,y) ∈ P.props → y = x) (hptr : x'.ptr = x.ptr) (hI : PropRep tag' k w' n x') (hf : Fr S tag tag' w w')
    (hS : ∀ t,S t → t = (k,10,n) ∨ t = (k,11,n)) : PRep tag' k w' { P with props := upd P.props n x' } := by
  obtain ⟨sv,iv,ov,cv,h1,h2,h3,h4,h5⟩ := h.cells
  have no : ∀ r i,r ≠ 10 → r ≠ 11 → ¬ S (k,r,i) := fun r i h1 h5 hs => by
    rcases hS _ hs with e | e <;> simp_all
  have no2 : ∀ r i,i ≠ n → ¬ S (k,r,i) := fun r i h1 hs => by
    rcases hS _ hs with e | e <;> simp_all
  refine ⟨h.k0,(hf.tag_eq h1).trans h.tptr,(hf.same _ h.pm.lt).trans h.tpm,⟨sv,iv,ov,cv,hf.heap h1 (show ¬ S (tag P.ptr) by rw [h.tptr]; exact no _ _ (by decide) (by decide)),h2.fr hf (no _ _ (by decide) (by decide)),h3.fr hf (no _ _ (by decide) (by decide)),h4.fr hf (no _ _ (by decide) (by decide)),h5.fr hf (no _ _ (by decide) (by decide))⟩,
    fun j it hj => (h.items j it hj).fr hf (no _ _ (by decide) (by decide)) (no _ _ (by decide) (by decide)) (no _ _ (by decide) (by decide)),?_,fun m y hy => ?_⟩
  · show MapIs w' P.pm ((upd P.props n x').map fun x => (.int .i64 x.1,.pointer (some ⟨x.2.ptr,0,none⟩)))
    rw [upd_ptr hu hptr]
    exact h.pm.fr hf (show ¬ S (tag P.pm) by rw [h.tpm]; exact no _ _ (by decide) (by decide))
  · rcases upd_mem hy with ⟨rfl,rfl⟩ | ⟨hm,hy⟩
    · exact hI
    · exact (h.props m y hy).fr hf (no2 _ _ hm) (no2 _ _ hm)
end
theorem posts_len (l : List Post) : (posts l).length = l.length * 6 := by
  induction l with
  | nil => rfl
  | cons p l ih => simp only [posts,List.flatMap_cons,List.length_append] at *; rw [ih]; simp [Post.cells]; omega
theorem posts_snoc (l : List Post) (p : Post) : posts (l ++ [p]) = posts l ++ p.cells := by simp [posts]
theorem cames_snoc (l : List Came) (p : Came) : cames (l ++ [p]) = cames l ++ p.cells := by simp [cames]
theorem Try.info49 : (Try.prog.info? 49).map (fun i => (i.zero,i.size,i.bytes)) = some (some (.agg #[.int .i64 0,.int .i64 0,.int .i64 0,.int .i64 0,.int .i64 0,.int .i64 0]),6,48) := by kernel_rfl
theorem Try.info106 : (Try.prog.info? 106).map (fun i => (i.zero,i.size,i.bytes)) = some (some (.agg #[.int .i64 0,.int .i64 0,.int .i64 0]),3,24) := by kernel_rfl
theorem Try.info116 : (Try.prog.info? 116).map (fun i => (i.zero,i.size,i.bytes)) = some (some (.agg #[.int .i64 0,.int .i64 0]),2,16) := by kernel_rfl
theorem Try.info69 : (Try.prog.info? 69).map (fun i => (i.zero,i.size,i.bytes)) = some (some (.agg #[.int .i64 0,.int .i64 0]),2,16) := by kernel_rfl
theorem Try.info3 : (Try.prog.info? 3).map (fun i => (i.zero,i.size,i.bytes)) = some (some (.int .i64 0),1,8) := by kernel_rfl
end Go.Proofs.Ytclkokkppgchfaa
