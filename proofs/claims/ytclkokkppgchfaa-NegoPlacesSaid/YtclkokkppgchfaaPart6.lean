/- A part of the proof: texts of this session, joined. -/
import Derived.Test.YtclkokkppgchfaaPart5
import Derived.Test.YtclkokkppgchfaaShort
set_option linter.unusedSimpArgs false
set_option linter.unusedVariables false
set_option maxHeartbeats 3200000
set_option maxRecDepth 100000
namespace Go.Proofs.Ytclkokkppgchfaa
open Go.RowKit Go.Ng Go.Proofs.YtclkokkppgchfaaW.PrintLast
structure Begun (P : PlaceM) (no : Int) (sites l : List Int) : Prop where
 pno : P.no = no
 psites : P.sites = sites
 len : P.items.length = l.length
 item : ∀ (j : Nat) (it : ItemM),P.items[j]? = some (some it) → l[j]? = some no ∧ it.held = false ∧ it.lk = ⟨0,0⟩ ∧ it.queue = [] ∧ it.version = 0 ∧ it.through = []
 has : ∀ (j : Nat),l[j]? = some no → ∃ it,P.items[j]? = some (some it)
 props : P.props = []
 out : P.out = []
 came : P.came = []
theorem Begun.snoc {P : PlaceM} {no n : Int} {sites l : List Int} {x : Option ItemM} (h : Begun P no sites l) (hx : ∀ it,x = some it → n = no ∧ it.held = false ∧ it.lk = ⟨0,0⟩ ∧ it.queue = [] ∧ it.version = 0 ∧ it.through = []) (hn : n = no → ∃ it,x = some it) :
  Begun { P with items := P.items ++ [x] } no sites (l ++ [n]) := by
 refine ⟨h.pno,h.psites,by simp [h.len],?_,?_,h.props,h.out,h.came⟩
 ·intro j it hj
  show (l ++ [n])[j]? = some no ∧ _
  have hj' : (P.items ++ [x])[j]? = some (some it) := hj
  rw [List.getElem?_append] at hj' ⊢
  rw [h.len] at hj'
  by_cases hl : j < l.length
  ·rw [if_pos hl] at hj' ⊢
   exact h.item j it hj'
  ·rw [if_neg hl] at hj' ⊢
   have h0 : j - l.length = 0 := by
    have := (List.getElem?_eq_some_iff.1 hj').1
    simp at this
    exact this
   rw [h0] at hj' ⊢
   simp at hj'
   obtain ⟨h1,h2⟩ := hx it hj'
   exact ⟨by simp [h1],h2⟩
 ·intro j hj
  rw [List.getElem?_append] at hj
  show ∃ it,(P.items ++ [x])[j]? = some (some it)
  rw [List.getElem?_append,h.len]
  by_cases hl : j < l.length
  ·rw [if_pos hl] at hj ⊢
   exact h.has j hj
  ·rw [if_neg hl] at hj ⊢
   have h0 : j - l.length = 0 := by
    have := (List.getElem?_eq_some_iff.1 hj).1
    simp at this
    exact this
   rw [h0] at hj ⊢
   simp at hj
   obtain ⟨it,hi⟩ := hn hj
   exact ⟨it,by simp [hi]⟩
section
variable {S : Tag → Prop} {tag tag' : Nat → Tag} {w w' : World} {k : Nat}
theorem PRep.add_item {P : PlaceM} {x : Option ItemM} (h : PRep tag k w P) (hf : Fr S tag tag' w w') (hS : ∀ t,S t → t = (k,1,0) ∨ t = (k,3,0))
  (hc : ∀ sv iv ov cv,w.heap[P.ptr]? = some (.cells #[.int .i64 P.no,sv,iv,.map (some P.pm),ov,cv] 113 (0,0)) → ∃ iv',w'.heap[P.ptr]? = some (.cells #[.int .i64 P.no,sv,iv',.map (some P.pm),ov,cv] 113 (0,0)) ∧
   Row tag' (k,3,0) 114 1 w' iv' (P.items ++ [x]).length ((P.items ++ [x]).map itemPtr))
  (hI : ∀ it,x = some it → ItemRep tag' k w' P.items.length it) : PRep tag' k w' { P with items := P.items ++ [x] } := by
 obtain ⟨sv,iv,ov,cv,h1,h2,h3,h4,h5⟩ := h.cells
 obtain ⟨iv',k1,k3⟩ := hc sv iv ov cv h1
 have no : ∀ r i,r ≠ 1 → r ≠ 3 → ¬ S (k,r,i) := fun r i h1 h5 hs => by
  rcases hS _ hs with e | e <;> simp_all
 refine ⟨h.k0,(hf.tag_eq h1).trans h.tptr,(hf.same _ h.pm.lt).trans h.tpm,⟨sv,iv',ov,cv,k1,h2.fr hf (no _ _ (by decide) (by decide)),k3,h4.fr hf (no _ _ (by decide) (by decide)),h5.fr hf (no _ _ (by decide) (by decide))⟩,
  fun j it hj => ?_,h.pm.fr hf (show ¬ S (tag P.pm) by rw [h.tpm]; exact no _ _ (by decide) (by decide)),fun n x hx => (h.props n x hx).fr hf (no _ _ (by decide) (by decide)) (no _ _ (by decide) (by decide))⟩
 have hj' : (P.items ++ [x])[j]? = some (some it) := hj
 rw [List.getElem?_append] at hj'
 by_cases hl : j < P.items.length
 ·rw [if_pos hl] at hj'
  exact (h.items j it hj').fr hf (no _ _ (by decide) (by decide)) (no _ _ (by decide) (by decide)) (no _ _ (by decide) (by decide))
 ·rw [if_neg hl] at hj'
  have h0 : j - P.items.length = 0 := by
   have := (List.getElem?_eq_some_iff.1 hj').1
   simp at this
   exact this
  rw [h0] at hj'
  simp at hj'
  obtain rfl : j = P.items.length := by omega
  exact hI it hj'
end
def Ext (tag : Nat → Tag) (w : World) (v : Value) : Prop := ∀ b off m cap,v = .slice (some ⟨b,off,none⟩) m cap → (tag b).1 = 0 ∧ b < w.heap.size
section
variable {S : Tag → Prop} {tag tag' : Nat → Tag} {w w' : World}
theorem Ext.fr {v : Value} (h : Ext tag w v) (hf : Fr S tag tag' w w') : Ext tag' w' v := fun b off m cap hv => by
 obtain ⟨h1,h2⟩ := h b off m cap hv
 exact ⟨by rw [hf.same b h2]; exact h1,Nat.lt_of_lt_of_le h2 hf.size⟩
theorem _root_.Go.Ng.Rd.ext {sz : Nat} {v : Value} {n : Nat} {ks : List Value} (h : Rd sz w v n ks) (he : Ext tag w v) (hf : Fr S tag tag' w w') (hS : ∀ t,S t → t.1 ≠ 0) : Rd sz w' v n ks := by
 refine ⟨h.len,h.one,?_⟩
 rcases h.form with h | ⟨b,off,cap,h1,h2,h3,h4⟩
 ·exact .inl h
 ·exact .inr ⟨b,off,cap,h1,h2,h3,fun j u hu => hf.cell (h4 j u hu) (fun hs => hS _ hs (he b off _ cap h1).1)⟩
end
theorem mk110 (w : World) : (Instr.makeMap 110 none).run Try.prog w = .ok (.map (some w.heap.size)) (w.alloc (.map #[] 0)) := by
 simp [Instr.makeMap,Sem.run_bind]
theorem mk66 (w : World) : (Instr.makeMap 66 none).run Try.prog w = .ok (.map (some w.heap.size)) (w.alloc (.map #[] 0)) := by
 simp [Instr.makeMap,Sem.run_bind]
theorem Try.info114 : (Try.prog.info? 114).map (fun i => (i.zero,i.size,i.bytes)) = some (some (.pointer none),1,8) := by kernel_rfl
theorem newPlace_ok {tag : Nat → Tag} {v : Value} (k : Nat) (no : Int) (l : List Int) (w : World) (hr : Rd 1 w v l.length (ints l)) (he : Ext tag w v) (hok : TagOk tag w) (hk : k ≠ 0) (h0 : 0 ≤ no) (h1 : no < 32) (hl : rightB l 32 = true) :
  Calls Try.prog 18 #[.int .i64 no,v] w fun e w' => ∃ P : PlaceM,e = .returned (.tuple #[.pointer (some ⟨P.ptr,0,none⟩),.int .i64 0]) ∧ Begun P no l l ∧
   ∃ tag',PRep tag' k w' P ∧ Fr (fun t => t.1 = k) tag tag' w w' := by
 obtain ⟨i0,hi,hz0,hz1,hz2⟩ := info_parts Try.info114
 obtain ⟨A,cap,rfl,hn1,hn2⟩ := hr.slice
 unfold maxLen at hn2
 have hll : l.length ≤ 64 := by
  simp [rightB] at hl
  exact hl.1
 have HR := Lib.hid hr
 have HL := Lib.hid hl
 have HE := Lib.hid he
 have hn0 : decide (no < 0) = false := by simp; omega
 have hn1' : decide ((32 : Int) ≤ no) = false := by simp; omega
 have hmk : ∀ W,(Instr.makeMap 110 none).run Try.prog W = .ok (.map (some W.heap.size)) (W.alloc (.map #[] 0)) := mk110
 clear hr hl he
 go_enter Try.func18,Try.ntmps18
 go_wp2_with (first
 | (
  go_at_call 66
  refine (right_ok l 32 w HR.out hok).mono ?_
  rw [HL.out]
  rintro e w1 ⟨rfl,hF1⟩
  have HF1 := Lib.hid hF1
  clear hF1)
 | (
  go_at_call 67
  refine (clone67_ok (k,2,0) l.length (ints l) w1 (HR.out.frF HF1.out) HF1.out.dom (by omega)).mono ?_
  rintro e w2 ⟨sv,rfl,tag2,hrow,hF2⟩
  obtain ⟨B,scap,rfl,hs1,hs2⟩ := hrow.form
  have HROW := Lib.hid hrow
  have HF2 := Lib.hid (HF1.out.trans hF2)
  clear hrow hF2))
 obtain ⟨w3,hw3⟩ : ∃ w3,w3 = (w2.alloc (.map #[] 0)).alloc (.cells #[.int .i64 no,.slice B l.length scap,.slice none 0 0,.map (some w2.heap.size),.slice none 0 0,.slice none 0 0] 113) := ⟨_,rfl⟩
 rw [← hw3]
 obtain ⟨p0,hp0⟩ : ∃ p0,p0 = w2.heap.size + 1 := ⟨_,rfl⟩
 rw [← hp0]
 have hok2 := HF2.out.dom
 have hFa : Fr (fun _ => False) tag2 (give tag2 w2.heap.size (k,4,0)) w2 (w2.alloc (.map #[] 0)) := Fr.give_alloc hok2 _ _
 have hFb : Fr (fun _ => False) (give tag2 w2.heap.size (k,4,0)) (give (give tag2 w2.heap.size (k,4,0)) p0 (k,1,0)) (w2.alloc (.map #[] 0)) w3 := by
  have := Fr.give_alloc (S:=fun _ => False) hFa.dom (.cells #[.int .i64 no,.slice B l.length scap,.slice none 0 0,.map (some w2.heap.size),.slice none 0 0,.slice none 0 0] 113) (k,1,0)
  rw [hw3,hp0]
  simpa using this
 have hF3 : Fr (fun _ => False) tag _ w w3 := (HF2.out.trans hFa).trans hFb
 have hmap : (w2.alloc (.map #[] 0)).heap[w2.heap.size]? = some (.map #[] 0) := Go.Ng.heap_alloc_at _ _
 have hP3 : PRep (give (give tag2 w2.heap.size (k,4,0)) p0 (k,1,0)) k w3 { ptr := p0,pm := w2.heap.size,no := no,sites := l,items := [],props := [],out := [],came := [] } := by
  refine ⟨hk,give_at _ _ _,?_,⟨.slice B l.length scap,.slice none 0 0,.slice none 0 0,.slice none 0 0,?_,(HROW.out.fr hFa (fun x => x)).fr hFb (fun x => x),Row.nil _ _ _ _ _,Row.nil _ _ _ _ _,Row.nil _ _ _ _ _⟩,?_,?_,?_⟩
  ·show give (give tag2 w2.heap.size (k,4,0)) p0 (k,1,0) w2.heap.size = _
   rw [give_ne _ _ (by omega),give_at]
  ·rw [hw3,hp0]
   have := Go.Ng.heap_alloc_at (w2.alloc (.map #[] 0)) (.cells #[.int .i64 no,.slice B l.length scap,.slice none 0 0,.map (some w2.heap.size),.slice none 0 0,.slice none 0 0] 113)
   simpa using this
  ·intro j it hj; simp at hj
  ·exact ⟨#[],0,hFb.heap hmap (fun x => x),rfl⟩
  ·intro n x hx; cases hx
 have hB3 : Begun { ptr := p0,pm := w2.heap.size,no := no,sites := l,items := [],props := [],out := [],came := [] } no l [] :=
  ⟨rfl,rfl,rfl,fun j it hj => by simp at hj,fun j hj => by simp at hj,rfl,rfl,rfl⟩
 have HE3 := Lib.hid (HE.out.fr hF3)
 have HR3 := Lib.hid (HR.out.frF hF3)
 have HP3 := Lib.hid hP3
 have HB3 := Lib.hid hB3
 have HF3 := Lib.hid hF3
 obtain ⟨tag3,ht3⟩ : ∃ t,t = give (give tag2 w2.heap.size (k,4,0)) p0 (k,1,0) := ⟨_,rfl⟩
 rw [← ht3] at HE3 HP3 HF3
 clear hw3 hFa hFb hF3 hmap hP3 hB3 hp0 ht3 HROW HF2 hok2 hmk
 have hmk : ∀ W,(Instr.makeMap 66 none).run Try.prog W = .ok (.map (some W.heap.size)) (W.alloc (.map #[] 0)) := mk66
 go_loopw [29] (fun i wr => ∃ n : Nat,n ≤ l.length ∧ i = .int .i64 n ∧ ∃ tagr P,Hid (P.ptr = p0) ∧ Hid (Begun P no l (l.take n)) ∧ Hid (PRep tagr k wr P) ∧ Hid (Fr (fun t => t.1 = k) tag3 tagr w3 wr)) (fun i _ => l.length - (intOf i).toNat)
 case atStart => exact ⟨0,Nat.zero_le _,rfl,tag3,_,Lib.hid rfl,HB3,HP3,Lib.hid (Fr.refl HF3.out.dom)⟩
 case round =>
  obtain ⟨n,hn,rfl,tagr,P,HPP,HB,HPr,HFr⟩ := hrel
  by_cases hlt : n < l.length
  ·obtain ⟨x,hx⟩ : ∃ x,l[n]? = some x := ⟨_,List.getElem?_eq_getElem hlt⟩
   have hrr := HR3.out.ext HE3.out HFr.out (fun t h => by rw [h]; exact hk)
   obtain ⟨b,off,cap2,hv,_,_,e0⟩ := Rd.int hrr hx
   injection hv with hv _ hv2
   subst hv hv2
   have htk : l.take (n + 1) = l.take n ++ [x] := by
    rw [List.take_succ_eq_append_getElem hlt]
    congr 2
    exact (List.getElem?_eq_some_iff.1 hx).2
   have HT := Lib.hid htk
   have i5 : (0 : Int) ≤ (n : Int) := by omega
   have i6 : (n : Int) < (l.length : Int) := by omega
   have hokr := HFr.out.dom
   obtain ⟨sv,iv,ov,cv,hc,h2,h3,h4,h5⟩ := HPr.out.cells
   rw [HPP.out] at hc
   obtain ⟨IA,icap,rfl,hl1,hl2⟩ := h3.form
   unfold maxLen at hl2
   have d2 : wr.cell? ⟨p0,2,none⟩ = some (.slice IA P.items.length icap) := cell_of hc 2
   have df := free_of hc 2
   have hpl := lt_of_heap hc
   have hlen : P.items.length ≤ 64 := by rw [HB.out.len,List.length_take]; omega
   have HC := Lib.hid hc
   have H3 := Lib.hid h3
   clear hx hrr hc h2 h3 h4 h5 htk
   have hidx : P.items.length = n := by rw [HB.out.len,List.length_take]; omega
   have HIDX := Lib.hid hidx
   have hpt : tagr p0 = (k,1,0) := by rw [← HPP.out]; exact HPr.out.tptr
   have HPT := Lib.hid hpt
   clear hidx hpt
   cases hxe : (x == no)
   ·have hbx : Begun { P with items := P.items ++ [none] } no l (l.take n ++ [x]) := HB.out.snoc (fun it h => by cases h) (fun h => by rw [h] at hxe; simp at hxe)
    have HBX := Lib.hid hbx
    clear hbx
    go_wp2_with (
     at_builtin
     refine append_list rfl (.tmp 43) (.tmp 45) 111 rfl (by rfl) (by rfl) (H3.out.alloc _) (hokr.alloc _) Try.underlying111 hi hz0 hz1 hz2 rfl (by decide) [.pointer none] rfl (news_at (Go.Ng.heap_alloc_at _ _)) (by simp [Value.oneCell']) (by decide) (by unfold maxLen; omega) (by omega) ?_
     intro g cap3 w5 tag5 hrow hfr
     have hF5 : Fr (fun t => t = (k,1,0) ∨ t = (k,3,0)) tagr tag5 wr w5 := (Fr.alloc hokr (.cells #[.pointer none] 114)).trans (hfr.mono (fun _ h => .inr h))
     have hc5 := (hfr.mono (S' := fun t => t = (k,3,0)) (fun _ h => h)).heap (heap_alloc_lt HC.out (.cells #[.pointer none] 114)) (by rw [HPT.out]; simp)
     have d2' : w5.cell? ⟨p0,2,none⟩ = some (.slice IA P.items.length icap) := cell_of hc5 2
     have df' := free_of hc5 2
     have HC5 := Lib.hid hc5
     have HROW5 := Lib.hid hrow
     have HF5 := Lib.hid hF5
     have hpt5 : tag5 p0 = (k,1,0) := (hF5.same _ hpl).trans HPT.out
     have HPT5 := Lib.hid hpt5
     clear hrow hfr hF5 hc5 hpt5)
    go_roundw
    case rel =>
     have hFs : Fr (fun t => t = (k,1,0) ∨ t = (k,3,0)) tag5 tag5 w5 (w5.setCell ⟨p0,2,none⟩ (.slice (some ⟨g,0,none⟩) (P.items.length + 1) cap3)) := Fr.setCell HF5.out.dom (a := ⟨p0,2,none⟩) (.inl HPT5.out) _
     have hFe := HF5.out.trans hFs
     refine ⟨n + 1,by omega,by go_num,tag5,{ P with items := P.items ++ [none] },HPP,Lib.hid ?_,Lib.hid (HPr.out.add_item hFe (fun _ h => h) ?_ (fun it h => by cases h)),Lib.hid (HFr.out.trans (hFe.mono (fun t h => by rcases h with h | h <;> rw [h])))⟩
     ·rw [HT.out]; exact HBX.out
     ·intro sv' iv' ov' cv' hh
      rw [HPP.out,HC.out] at hh
      injection hh with hh; injection hh with hh
      simp at hh
      obtain ⟨rfl,rfl,rfl,rfl⟩ := hh
      refine ⟨.slice (some ⟨g,0,none⟩) (P.items.length + 1) cap3,?_,?_⟩
      ·rw [HPP.out,Go.Ng.heap_setCell_same HC5.out]; rfl
      ·rw [List.map_append,List.length_append]
       exact HROW5.out.keep fun b hb ht => ⟨ht,Below.heap_setCell w5 ⟨p0,2,none⟩ _ b (fun e => by rw [e,HPT5.out] at ht; simp at ht)⟩
    case measure => simp [intOf]; omega
   ·have hxno : x = no := by simpa using hxe
    have hbx : Begun { P with items := P.items ++ [some ({ ptr := wr.heap.size + 1,tm := wr.heap.size,held := false,lk := ⟨0,0⟩,queue := [],version := 0,through := [] } : ItemM)] } no l (l.take n ++ [x]) := HB.out.snoc (fun it h => by injection h with h; subst h; exact ⟨hxno,rfl,rfl,rfl,rfl,rfl⟩) (fun _ => ⟨_,rfl⟩)
    have HBX := Lib.hid hbx
    have hFa : Fr (fun _ => False) tagr (give tagr wr.heap.size (k,9,(n : Int))) wr (wr.alloc (.map #[] 0)) := Fr.give_alloc hokr _ _
    have hFb : Fr (fun _ => False) (give tagr wr.heap.size (k,9,(n : Int))) (give (give tagr wr.heap.size (k,9,(n : Int))) (wr.heap.size + 1) (k,7,(n : Int))) (wr.alloc (.map #[] 0)) ((wr.alloc (.map #[] 0)).alloc (.cells #[.bool false,.int .i64 0,.int .i64 0,.slice none 0 0,.int .i64 0,.map (some wr.heap.size)] 121)) := by
     have := Fr.give_alloc (S:=fun _ => False) hFa.dom (.cells #[.bool false,.int .i64 0,.int .i64 0,.slice none 0 0,.int .i64 0,.map (some wr.heap.size)] 121) (k,7,(n : Int))
     simpa using this
    have hFab := hFa.trans hFb
    have hFc : Fr (fun _ => False) (give (give tagr wr.heap.size (k,9,(n : Int))) (wr.heap.size + 1) (k,7,(n : Int))) (give (give tagr wr.heap.size (k,9,(n : Int))) (wr.heap.size + 1) (k,7,(n : Int))) ((wr.alloc (.map #[] 0)).alloc (.cells #[.bool false,.int .i64 0,.int .i64 0,.slice none 0 0,.int .i64 0,.map (some wr.heap.size)] 121)) (((wr.alloc (.map #[] 0)).alloc (.cells #[.bool false,.int .i64 0,.int .i64 0,.slice none 0 0,.int .i64 0,.map (some wr.heap.size)] 121)).alloc (.cells #[.pointer (some ⟨wr.heap.size + 1,0,none⟩)] 114)) := Fr.alloc hFab.dom _
    have hF0 := hFab.trans hFc
    have hI : ItemRep (give (give tagr wr.heap.size (k,9,(n : Int))) (wr.heap.size + 1) (k,7,(n : Int))) k ((wr.alloc (.map #[] 0)).alloc (.cells #[.bool false,.int .i64 0,.int .i64 0,.slice none 0 0,.int .i64 0,.map (some wr.heap.size)] 121)) n ({ ptr := wr.heap.size + 1,tm := wr.heap.size,held := false,lk := ⟨0,0⟩,queue := [],version := 0,through := [] } : ItemM) := by
     refine ⟨give_at _ _ _,?_,⟨.slice none 0 0,?_,Row.nil _ _ _ _ _⟩,⟨#[],0,?_,rfl⟩⟩
     ·show (give (give tagr wr.heap.size (k,9,(n : Int))) (wr.heap.size + 1) (k,7,(n : Int))) wr.heap.size = _
      rw [give_ne _ _ (by omega),give_at]
     ·have := Go.Ng.heap_alloc_at (wr.alloc (.map #[] 0)) (.cells #[.bool false,.int .i64 0,.int .i64 0,.slice none 0 0,.int .i64 0,.map (some wr.heap.size)] 121)
      simpa using this
     ·exact hFb.heap (Go.Ng.heap_alloc_at wr (.map #[] 0)) (fun x => x)
    have HI := Lib.hid (hI.fr hFc (fun x => x) (fun x => x) (fun x => x))
    have HR0 := Lib.hid (H3.out.fr hF0 (fun x => x))
    have HC0 := Lib.hid (hF0.heap HC.out (fun x => x))
    have HNW : Hid ((((wr.alloc (.map #[] 0)).alloc (.cells #[.bool false,.int .i64 0,.int .i64 0,.slice none 0 0,.int .i64 0,.map (some wr.heap.size)] 121)).alloc (.cells #[.pointer (some ⟨wr.heap.size + 1,0,none⟩)] 114)).heap[wr.heap.size + 2]? = some (.cells #[.pointer (some ⟨wr.heap.size + 1,0,none⟩)] 114)) := Lib.hid (by have := Go.Ng.heap_alloc_at ((wr.alloc (.map #[] 0)).alloc (.cells #[.bool false,.int .i64 0,.int .i64 0,.slice none 0 0,.int .i64 0,.map (some wr.heap.size)] 121)) (.cells #[.pointer (some ⟨wr.heap.size + 1,0,none⟩)] 114); simpa using this)
    have HF0 := Lib.hid hF0
    clear hbx hFa hFb hFab hFc hF0 hI
    go_wp2_with (
     at_builtin
     refine append_list rfl (.tmp 43) (.tmp 45) 111 rfl (by rfl) (by rfl) HR0.out HF0.out.dom Try.underlying111 hi hz0 hz1 hz2 rfl (by decide) [.pointer (some ⟨wr.heap.size + 1,0,none⟩)] rfl (news_at HNW.out) (by simp [Value.oneCell']) (by decide) (by unfold maxLen; omega) (by omega) ?_
     intro g cap3 w5 tag5 hrow hfr
     have hF5 : Fr (fun t => t = (k,1,0) ∨ t = (k,3,0)) tagr tag5 wr w5 := (HF0.out.mono (fun _ h => h.elim)).trans (hfr.mono (fun _ h => .inr h))
     have hc5 := (hfr.mono (S' := fun t => t = (k,3,0)) (fun _ h => h)).heap HC0.out (by rw [HF0.out.same _ hpl,HPT.out]; simp)
     have d2' : w5.cell? ⟨p0,2,none⟩ = some (.slice IA P.items.length icap) := cell_of hc5 2
     have df' := free_of hc5 2
     have HI5 := Lib.hid (HI.out.fr hfr (by simp) (by simp) (by simp))
     have HC5 := Lib.hid hc5
     have HROW5 := Lib.hid hrow
     have HF5 := Lib.hid hF5
     have hpt5 : tag5 p0 = (k,1,0) := (hF5.same _ hpl).trans HPT.out
     have HPT5 := Lib.hid hpt5
     clear hrow hfr hF5 hc5 hpt5)
    go_roundw
    case rel =>
     have hFs : Fr (fun t => t = (k,1,0)) tag5 tag5 w5 (w5.setCell ⟨p0,2,none⟩ (.slice (some ⟨g,0,none⟩) (P.items.length + 1) cap3)) := Fr.setCell HF5.out.dom (a := ⟨p0,2,none⟩) HPT5.out _
     have hFe := HF5.out.trans (hFs.mono (S' := fun t => t = (k,1,0) ∨ t = (k,3,0)) (fun _ h => .inl h))
     refine ⟨n + 1,by omega,by go_num,tag5,{ P with items := P.items ++ [some ({ ptr := wr.heap.size + 1,tm := wr.heap.size,held := false,lk := ⟨0,0⟩,queue := [],version := 0,through := [] } : ItemM)] },HPP,Lib.hid ?_,Lib.hid (HPr.out.add_item hFe (fun _ h => h) ?_ (fun it h => ?_)),Lib.hid (HFr.out.trans (hFe.mono (fun t h => by rcases h with h | h <;> rw [h])))⟩
     ·rw [HT.out]; exact HBX.out
     ·intro sv' iv' ov' cv' hh
      rw [HPP.out,HC.out] at hh
      injection hh with hh; injection hh with hh
      simp at hh
      obtain ⟨rfl,rfl,rfl,rfl⟩ := hh
      refine ⟨.slice (some ⟨g,0,none⟩) (P.items.length + 1) cap3,?_,?_⟩
      ·rw [HPP.out,Go.Ng.heap_setCell_same HC5.out]; rfl
      ·rw [List.map_append,List.length_append]
       exact HROW5.out.keep fun b hb ht => ⟨ht,Below.heap_setCell w5 ⟨p0,2,none⟩ _ b (fun e => by rw [e,HPT5.out] at ht; simp at ht)⟩
     ·injection h with h
      subst h
      have hII := HI5.out.fr hFs (by simp) (by simp) (by simp)
      rw [← HIDX.out] at hII
      exact hII
    case measure => simp [intOf]; omega
  ·have : n = l.length := by omega
   subst this
   go_wp2
   go_ret2
   have hB := HB.out
   rw [List.take_length] at hB
   refine ⟨P,by rw [HPP.out]; rfl,hB,tagr,HPr.out,(HF3.out.mono (fun _ h => h.elim)).trans HFr.out⟩
end Go.Proofs.Ytclkokkppgchfaa
namespace Go.Ng
structure OpM where
 kind : Int
 n : Int
 claims : List Clm
end Go.Ng
namespace Go.Proofs.Ytclkokkppgchfaa
open Go.RowKit Go.Ng Go.Proofs.YtclkokkppgchfaaW.PrintLast
def opCells (x : OpM × Value) : List Value := [.int .i64 x.1.kind,.int .i64 x.1.n,x.2]
def RdX (tag : Nat → Tag) (w : World) (v : Value) (l : List Clm) : Prop := (Rd 2 w v l.length (claims l) ∧ Ext tag w v) ∨ (l = [] ∧ ∃ A cap,v = .slice A 0 cap ∧ cap ≤ maxLen)
theorem RdX.slice {tag : Nat → Tag} {w : World} {v : Value} {l : List Clm} (h : RdX tag w v l) : ∃ A cap,v = .slice A l.length cap ∧ cap ≤ maxLen := by
 rcases h with ⟨h,_⟩ | ⟨rfl,A,cap,rfl,h⟩
 ·obtain ⟨A,cap,h1,_,h2⟩ := h.slice; exact ⟨A,cap,h1,h2⟩
 ·exact ⟨A,cap,rfl,h⟩
theorem RdX.fr {S : Tag → Prop} {tag tag' : Nat → Tag} {w w' : World} {v : Value} {l : List Clm} (h : RdX tag w v l) (hf : Fr S tag tag' w w') (hS : ∀ t,S t → t.1 ≠ 0) : RdX tag' w' v l := by
 rcases h with ⟨h,k⟩ | h
 ·exact .inl ⟨h.ext k hf hS,k.fr hf⟩
 ·exact .inr h
theorem RdX.frF {tag tag' : Nat → Tag} {w w' : World} {v : Value} {l : List Clm} (h : RdX tag w v l) (hf : Fr (fun _ => False) tag tag' w w') : RdX tag' w' v l := h.fr hf (fun _ h => h.elim)
structure OpsRd (tag : Nat → Tag) (w : World) (v : Value) (l : List OpM) : Prop where
 rd : ∃ xs : List (OpM × Value),xs.map (·.1) = l ∧ Rd 3 w v l.length (xs.flatMap opCells) ∧ ∀ x ∈ xs,RdX tag w x.2 x.1.claims
 ext : Ext tag w v
def bigO (o : OpM) : Bool := decide (100 < o.claims.length)
def fewB (n : Nat) (l : List OpM) : Bool := decide (l.length ≤ 80) && decide (n ≤ 65) && !l.any bigO
section
variable {tag tag' : Nat → Tag} {w w' : World} {v : Value} {l : List OpM} {S : Tag → Prop}
theorem OpsRd.fr (h : OpsRd tag w v l) (hf : Fr S tag tag' w w') (hS : ∀ t,S t → t.1 ≠ 0) : OpsRd tag' w' v l := by
 obtain ⟨xs,h1,h2,h3⟩ := h.rd
 exact ⟨⟨xs,h1,h2.ext h.ext hf hS,fun x hx => (h3 x hx).fr hf hS⟩,h.ext.fr hf⟩
theorem OpsRd.slice (h : OpsRd tag w v l) : ∃ A cap,v = .slice A l.length cap ∧ l.length ≤ cap ∧ cap ≤ maxLen := by
 obtain ⟨xs,h1,h2,h3⟩ := h.rd
 exact h2.slice
theorem OpsRd.get (h : OpsRd tag w v l) {n : Nat} {o : OpM} (ho : l[n]? = some o) : ∃ b off cap u,v = .slice (some ⟨b,off,none⟩) l.length cap ∧
  w.cell? ⟨b,off + n * 3,none⟩ = some (.int .i64 o.kind) ∧ w.cell? ⟨b,off + n * 3 + 1,none⟩ = some (.int .i64 o.n) ∧ w.cell? ⟨b,off + n * 3 + 2,none⟩ = some u ∧ RdX tag w u o.claims := by
 obtain ⟨xs,h1,h2,h3⟩ := h.rd
 subst h1
 rw [List.getElem?_map,Option.map_eq_some_iff] at ho
 obtain ⟨⟨o',u⟩,hx,rfl⟩ := ho
 obtain ⟨b,off,cap,he,_,_,hc⟩ := Rd.elem (enc := opCells) h2 (fun _ => rfl) (by decide) hx
 exact ⟨b,off,cap,u,he,hc 0 _ rfl,hc 1 _ rfl,hc 2 _ rfl,h3 _ (List.mem_of_getElem? hx)⟩
theorem big_ok (k n : Int) (A : Option Addr) (m cap : Nat) (hok : TagOk tag w) :
  Calls Try.prog 65 #[.agg #[.int .i64 k,.int .i64 n,.slice A m cap]] w fun e w' => e = .returned (.bool (decide (100 < m))) ∧ Fr (fun _ => False) tag tag w w' := by
 go_enter Try.func65,Try.ntmps65
 go_wp2_with fail
 go_ret
 refine ⟨?_,Fr.alloc hok _⟩
 congr 2
 simp
 omega
theorem indexO_ok (h : OpsRd tag w v l) (hok : TagOk tag w) (hl : l.length ≤ 80) :
  Calls Try.prog 106 #[v,.func (.func 65) #[] #[]] w fun e w' => (∃ i : Int,e = .returned (.int .i64 i) ∧ decide (0 ≤ i) = l.any bigO) ∧ Fr (fun _ => False) tag tag w w' := by
 obtain ⟨A,cap,rfl,hn1,hn2⟩ := h.slice
 unfold maxLen at hn2
 have HR := Lib.hid h
 clear h
 go_enter Try.func106,Try.ntmps106
 go_wp2_with fail
 go_loopw [8] (fun i wr => ∃ j : Nat,j ≤ l.length ∧ i = .int .i64 j ∧ Hid (∀ i < j,∀ x,l[i]? = some x → bigO x = false) ∧ Hid (Fr (fun _ => False) tag tag w wr)) (fun i _ => l.length - (intOf i).toNat)
 case atStart => exact ⟨0,Nat.zero_le _,rfl,Lib.hid (fun i h => by omega),Lib.hid (Fr.refl hok)⟩
 case round =>
  obtain ⟨j,hj,rfl,hno,HF⟩ := hrel
  by_cases hjl : j < l.length
  ·obtain ⟨o,hx⟩ : ∃ x,l[j]? = some x := ⟨_,List.getElem?_eq_getElem hjl⟩
   obtain ⟨b,off,cap2,u,hv,k0,k1,k2,hr⟩ := OpsRd.get HR.out hx
   injection hv with hv _ hv2
   subst hv hv2
   obtain ⟨UA,ucap,rfl,_⟩ := hr.slice
   have e0 := HF.out.cellF k0
   have e1 := HF.out.cellF k1
   have e2 := HF.out.cellF k2
   have hokr := HF.out.dom
   have HX := Lib.hid hx
   have i5 : (0 : Int) ≤ (j : Int) := by omega
   have i6 : (j : Int) < (l.length : Int) := by omega
   clear hx k0 k1 k2 hr
   cases hp : bigO o
   ·have HP := Lib.hid hp
    have HP' : Hid (decide (100 < o.claims.length) = false) := Lib.hid hp
    clear hp
    go_wp2_with (go_at_call 65; refine (big_ok (tag := tag) o.kind o.n UA o.claims.length ucap hokr).mono ?_; rw [HP'.out]; rintro e w' ⟨rfl,hw⟩; have HW := Lib.hid hw; clear hw)
    go_roundw
    case rel =>
     refine ⟨j + 1,by omega,by go_num,Lib.hid ?_,Lib.hid (HF.out.trans HW.out)⟩
     intro i hi y hy
     rcases Nat.lt_succ_iff_lt_or_eq.1 hi with h | h
     ·exact hno.out i h y hy
     ·subst h
      have := HX.out.symm.trans hy
      injection this with this
      subst this
      exact HP.out
    case measure => simp [intOf]; omega
   ·have HP := Lib.hid hp
    have HP' : Hid (decide (100 < o.claims.length) = true) := Lib.hid hp
    clear hp
    go_wp2_with (go_at_call 65; refine (big_ok (tag := tag) o.kind o.n UA o.claims.length ucap hokr).mono ?_; rw [HP'.out]; rintro e w' ⟨rfl,hw⟩; have HW := Lib.hid hw; clear hw)
    go_ret
    refine ⟨⟨j,rfl,?_⟩,HF.out.trans HW.out⟩
    have : l.any bigO = true := List.any_eq_true.2 ⟨o,List.mem_of_getElem? HX.out,HP.out⟩
    rw [this]; simp
  ·have : j = l.length := by omega
   subst this
   go_wp2
   go_ret
   refine ⟨⟨-1,rfl,?_⟩,HF.out⟩
   have : l.any bigO = false := by
    rw [List.any_eq_false]
    intro x hx
    obtain ⟨i,hi⟩ := List.getElem?_of_mem hx
    have := hno.out i (List.getElem?_eq_some_iff.1 hi).1 x hi
    simp [this]
   rw [this]; rfl
theorem containsO_ok (h : OpsRd tag w v l) (hok : TagOk tag w) (hl : l.length ≤ 80) :
  Calls Try.prog 64 #[v,.func (.func 65) #[] #[]] w fun e w' => e = .returned (.bool (l.any bigO)) ∧ Fr (fun _ => False) tag tag w w' := by
 have HI := Lib.hid (indexO_ok h hok hl)
 clear h
 go_enter Try.func64,Try.ntmps64
 go_wp2_with (go_at_call 106; refine HI.out.mono ?_; rintro e w' ⟨⟨i,rfl,hi⟩,hw⟩; have HI2 := Lib.hid hi; have HW := Lib.hid hw; clear hi hw)
 go_ret
 exact ⟨by rw [← HI2.out]; rfl,HW.out⟩
theorem few_ok {vi : Value} {n : Nat} {ks : List Value} (hi : Rd 1 w vi n ks) (h : OpsRd tag w v l) (hok : TagOk tag w) :
  Calls Try.prog 17 #[vi,v] w fun e w' => e = .returned (.bool (fewB n l)) ∧ Fr (fun _ => False) tag tag w w' := by
 obtain ⟨IA,icap,rfl,hi1,hi2⟩ := hi.slice
 unfold maxLen at hi2
 by_cases h1 : l.length ≤ 80
 ·have HC := Lib.hid (containsO_ok h hok h1)
  obtain ⟨A,cap,rfl,hn1,hn2⟩ := h.slice
  unfold maxLen at hn2
  have i1 : (l.length : Int) ≤ 80 := by omega
  clear h hi
  by_cases h2 : n ≤ 65
  ·have i2 : (n : Int) ≤ 65 := by omega
   have HB : Hid (fewB n l = !l.any bigO) := Lib.hid (by simp [fewB,h1,h2])
   go_enter Try.func17,Try.ntmps17
   go_wp2_with (go_at_call 64; refine HC.out.mono ?_; rintro e w' ⟨rfl,hw⟩; have HW := Lib.hid hw; clear hw)
   go_ret
   exact ⟨by rw [HB.out]; rfl,HW.out⟩
  ·have i2 : decide ((n : Int) ≤ 65) = false := decide_eq_false (by omega)
   have HB : Hid (fewB n l = false) := Lib.hid (by simp [fewB,h2])
   clear h2
   go_enter Try.func17,Try.ntmps17
   go_wp2_with fail
   go_ret
   exact ⟨by rw [HB.out]; rfl,Fr.refl hok⟩
 ·obtain ⟨A,cap,rfl,hn1,hn2⟩ := h.slice
  unfold maxLen at hn2
  have i2 : decide ((l.length : Int) ≤ 80) = false := decide_eq_false (by omega)
  have HB : Hid (fewB n l = false) := Lib.hid (by simp [fewB,h1])
  clear h1 h hi
  go_enter Try.func17,Try.ntmps17
  go_wp2_with fail
  go_ret
  exact ⟨by rw [HB.out]; rfl,Fr.refl hok⟩
end
end Go.Proofs.Ytclkokkppgchfaa
namespace Go.Ng
structure NetM where
 ptr : Nat
 places : List PlaceM
 sites : List Int
 flight : List Post
 claims : List (List Clm)
 homes : List Int
 history : List (List Int)
 decided : List Int
end Go.Ng
namespace Go.Proofs.Ytclkokkppgchfaa
open Go.RowKit Go.Ng Go.Proofs.YtclkokkppgchfaaW.PrintLast
def placePtr (P : PlaceM) : Value := .pointer (some ⟨P.ptr,0,none⟩)
structure NRep (tag : Nat → Tag) (B : Nat) (w : World) (N : NetM) : Prop where
 b0 : B ≠ 0
 tptr : tag N.ptr = (B,1,0)
 cells : ∃ pv sv fv cv hv yv dv,w.heap[N.ptr]? = some (.cells #[pv,sv,fv,cv,hv,yv,dv] 154 (0,0)) ∧
  Row tag (B,2,0) 27 1 w pv N.places.length (N.places.map placePtr) ∧ Row tag (B,3,0) 3 1 w sv N.sites.length (ints N.sites) ∧
  Row tag (B,4,0) 49 6 w fv N.flight.length (posts N.flight) ∧
  (∃ cvs : List Value,Row tag (B,5,0) 34 1 w cv N.claims.length cvs ∧ ∀ (i : Nat) (l : List Clm),N.claims[i]? = some l → ∃ v,cvs[i]? = some v ∧ Row tag (B,6,(i : Int)) 69 2 w v l.length (Ytclkokkppgchfaa.claims l)) ∧
  Row tag (B,7,0) 3 1 w hv N.homes.length (ints N.homes) ∧
  (∃ yvs : List Value,Row tag (B,8,0) 22 1 w yv N.history.length yvs ∧ ∀ (i : Nat) (l : List Int),N.history[i]? = some l → ∃ v,yvs[i]? = some v ∧ Row tag (B,9,(i : Int)) 3 1 w v l.length (ints l)) ∧
  Row tag (B,10,0) 3 1 w dv N.decided.length (ints N.decided)
 places : ∀ (i : Nat) (P : PlaceM),N.places[i]? = some P → PRep tag (B + 1 + i) w P
section
variable {S : Tag → Prop} {tag tag' : Nat → Tag} {w w' : World} {B : Nat} {N : NetM}
theorem NRep.fr (h : NRep tag B w N) (hf : Fr S tag tag' w w') (hS : ∀ i r j,i ≤ N.places.length → ¬ S (B + i,r,j)) : NRep tag' B w' N := by
 obtain ⟨pv,sv,fv,cv,hv,yv,dv,hc,h2,h3,h4,⟨cvs,h5,h6⟩,h7,⟨yvs,h8,h9⟩,h10⟩ := h.cells
 have no : ∀ r j,¬ S (B,r,j) := fun r j => hS 0 r j (Nat.zero_le _)
 refine ⟨h.b0,(hf.tag_eq hc).trans h.tptr,⟨pv,sv,fv,cv,hv,yv,dv,hf.heap hc (by rw [h.tptr]; exact no _ _),h2.fr hf (no _ _),h3.fr hf (no _ _),h4.fr hf (no _ _),⟨cvs,h5.fr hf (no _ _),fun i l hl => ?_⟩,h7.fr hf (no _ _),⟨yvs,h8.fr hf (no _ _),fun i l hl => ?_⟩,h10.fr hf (no _ _)⟩,fun i P hP => ?_⟩
 ·obtain ⟨v,hv,hr⟩ := h6 i l hl
  exact ⟨v,hv,hr.fr hf (no _ _)⟩
 ·obtain ⟨v,hv,hr⟩ := h9 i l hl
  exact ⟨v,hv,hr.fr hf (no _ _)⟩
 ·have hl := (List.getElem?_eq_some_iff.1 hP).1
  refine (h.places i P hP).fr hf (fun r j => ?_)
  have := hS (1 + i) r j (by omega)
  rwa [← Nat.add_assoc] at this
end
section
variable {tag : Nat → Tag} {w : World} {B : Nat} {N : NetM}
theorem NRep.site (h : NRep tag B w N) {j p : Nat} {P : PlaceM} (hj : N.sites[j]? = some (p : Int)) (hp : N.places[p]? = some P) :
  ∃ pb pcap sb scap,w.cell? ⟨N.ptr,0,none⟩ = some (.slice (some ⟨pb,0,none⟩) N.places.length pcap) ∧ w.cell? ⟨N.ptr,1,none⟩ = some (.slice (some ⟨sb,0,none⟩) N.sites.length scap) ∧
   N.places.length ≤ pcap ∧ pcap ≤ 2 ^ 63 - 1 ∧ N.sites.length ≤ scap ∧ scap ≤ 2 ^ 63 - 1 ∧ w.cell? ⟨sb,j,none⟩ = some (.int .i64 (p : Int)) ∧ w.cell? ⟨pb,p,none⟩ = some (.pointer (some ⟨P.ptr,0,none⟩)) := by
 obtain ⟨pv,sv,fv,cv,hv,yv,dv,hc,h2,h3,_⟩ := h.cells
 obtain ⟨PA,pcap,rfl,q1,q2⟩ := h2.form
 obtain ⟨SA,scap,rfl,q3,q4⟩ := h3.form
 have hjl := (List.getElem?_eq_some_iff.1 hj).1
 have hpl := (List.getElem?_eq_some_iff.1 hp).1
 obtain ⟨pb,rfl,_,_,hpc⟩ := h2.cell rfl (j:=p) (by simpa using hpl)
 obtain ⟨sb,rfl,_,_,hsc⟩ := h3.cell rfl (j:=j) (by simpa [ints] using hjl)
 refine ⟨pb,pcap,sb,scap,cell_of hc 0,cell_of hc 1,q1,q2,q3,q4,?_,?_⟩
 ·rw [hsc,ints,List.getElem?_map,hj]; rfl
 ·rw [hpc,List.getElem?_map,hp]; rfl
theorem at_ok {j p : Nat} {P : PlaceM} (h : NRep tag B w N) (hok : TagOk tag w) (hj : N.sites[j]? = some (p : Int)) (hp : N.places[p]? = some P) :
  Calls Try.prog 100 #[.pointer (some ⟨N.ptr,0,none⟩),.int .i64 (j : Int)] w fun e w' => e = .returned (.tuple #[.pointer (some ⟨P.ptr,0,none⟩),.int .i64 0]) ∧ Fr (fun _ => False) tag tag w w' := by
 obtain ⟨pb,pcap,sb,scap,c0,c1,q1,q2,q3,q4,e0,e1⟩ := h.site hj hp
 have hjl := (List.getElem?_eq_some_iff.1 hj).1
 have hpl := (List.getElem?_eq_some_iff.1 hp).1
 have i1 : (0 : Int) ≤ (j : Int) := by omega
 have i2 : (j : Int) < (N.sites.length : Int) := by omega
 have i3 : (0 : Int) ≤ (p : Int) := by omega
 have i4 : (p : Int) < (N.places.length : Int) := by omega
 have i5 : decide ((j : Int) < 0) = false := by simp
 clear h hj hp
 go_enter Try.func100,Try.ntmps100
 go_wp2_with fail
 go_quiet (fail)
 go_wp2
 go_ret2
 exact ⟨rfl,(Fr.refl hok).dN _⟩
theorem nversion_ok {j p i : Nat} {P : PlaceM} {it : ItemM} (h : NRep tag B w N) (hok : TagOk tag w) (hj : N.sites[j]? = some (p : Int)) (hp : N.places[p]? = some P) (hi : P.items[j]? = some (some it)) :
  Calls Try.prog 50 #[.pointer (some ⟨N.ptr,0,none⟩),.int .i64 (j : Int)] w fun e w' => e = .returned (.tuple #[.int .i64 it.version,.int .i64 0]) ∧ Fr (fun _ => False) tag tag w w' := by
 have HA := Lib.hid (at_ok h hok hj hp)
 have HP := Lib.hid (h.places p P hp)
 have HI := Lib.hid hi
 clear h hj hp hi
 go_enter Try.func50,Try.ntmps50
 go_wp2_with (first
 | (go_at_call 100; refine HA.out.mono ?_; rintro e w1 ⟨rfl,hF1⟩; have HF1 := Lib.hid hF1; clear hF1)
 | (go_at_call 88; refine (version_ok (HP.out.fr HF1.out (fun _ _ x => x)) HI.out).mono ?_; rintro e w2 ⟨rfl,hw⟩; replace hw := hw.symm; subst hw))
 go_ret2
 exact ⟨rfl,HF1.out⟩
theorem nholder_ok {j p : Nat} {P : PlaceM} {it : ItemM} (h : NRep tag B w N) (hok : TagOk tag w) (hj : N.sites[j]? = some (p : Int)) (hp : N.places[p]? = some P) (hi : P.items[j]? = some (some it)) :
  Calls Try.prog 41 #[.pointer (some ⟨N.ptr,0,none⟩),.int .i64 (j : Int)] w fun e w' => e = .returned (.tuple #[.int .i64 (if it.held = true then it.lk.prop else -1),.int .i64 0]) ∧ Fr (fun _ => False) tag tag w w' := by
 have HA := Lib.hid (at_ok h hok hj hp)
 have HP := Lib.hid (h.places p P hp)
 have HI := Lib.hid hi
 clear h hj hp hi
 go_enter Try.func41,Try.ntmps41
 go_wp2_with (first
 | (go_at_call 100; refine HA.out.mono ?_; rintro e w1 ⟨rfl,hF1⟩; have HF1 := Lib.hid hF1; clear hF1)
 | (go_at_call 89; refine (holder_ok (HP.out.fr HF1.out (fun _ _ x => x)) HI.out).mono ?_; rintro e w2 ⟨rfl,hw⟩; replace hw := hw.symm; subst hw))
 all_goals (go_ret2; exact ⟨rfl,HF1.out⟩)
theorem nwaits_ok {j p : Nat} {P : PlaceM} {it : ItemM} {t : Tag} (h : NRep tag B w N) (hok : TagOk tag w) (hj : N.sites[j]? = some (p : Int)) (hp : N.places[p]? = some P) (hi : P.items[j]? = some (some it)) (hq : it.queue.length ≤ 100000) (hk : t.1 ≠ 0) (ht : ∀ b,b < w.heap.size → tag b ≠ t) :
  Calls Try.prog 40 #[.pointer (some ⟨N.ptr,0,none⟩),.int .i64 (j : Int)] w fun e w' => ∃ v,e = .returned (.tuple #[v,.int .i64 0]) ∧ ∃ tag',Row tag' t 3 1 w' v it.queue.length (ints (it.queue.map (·.prop))) ∧ Fr (fun _ => False) tag tag' w w' := by
 have HA := Lib.hid (at_ok h hok hj hp)
 have HP := Lib.hid (h.places p P hp)
 have HI := Lib.hid hi
 have HT := Lib.hid ht
 clear h hj hp hi ht
 go_enter Try.func40,Try.ntmps40
 go_wp2_with (first
 | (go_at_call 100; refine HA.out.mono ?_; rintro e w1 ⟨rfl,hF1⟩; have HF1 := Lib.hid hF1; clear hF1)
 | (
  go_at_call 90
  refine (pwaits_ok (t := t) (HP.out.fr HF1.out (fun _ _ x => x)) HF1.out.dom HI.out hq (fun b hb => ?_)).mono ?_
  ·by_cases hbw : b < w.heap.size
   ·rw [HF1.out.same b hbw]; exact HT.out b hbw
   ·intro e
    have := hok b (by rw [e]; exact hk)
    exact hbw this
  rintro e w2 ⟨v,rfl,tag2,hr,hF2⟩
  have HR := Lib.hid hr
  have HF2 := Lib.hid hF2
  clear hr hF2))
 go_ret2
 exact ⟨_,rfl,tag2,HR.out,HF1.out.trans HF2.out⟩
end
theorem ints_one (l : List Int) : ∀ u ∈ ints l,u.oneCell' = true := by
 intro u hu
 simp only [ints,List.mem_map] at hu
 obtain ⟨p,_,rfl⟩ := hu
 rfl
theorem claims_one (l : List Clm) : ∀ u ∈ claims l,u.oneCell' = true := by
 intro u hu
 simp only [claims,List.mem_flatMap] at hu
 obtain ⟨p,_,hp⟩ := hu
 simp [Clm.cells] at hp
 rcases hp with rfl | rfl <;> rfl
theorem posts_one' (l : List Post) : ∀ u ∈ posts l,u.oneCell' = true := by
 intro u hu
 simp only [posts,List.mem_flatMap] at hu
 obtain ⟨p,_,hp⟩ := hu
 simp [Post.cells] at hp
 rcases hp with rfl | rfl | rfl | rfl | rfl | rfl <;> rfl
section
variable {tag : Nat → Tag} {w : World} {B : Nat} {N : NetM}
theorem nhistory_ok {j p : Nat} {P : PlaceM} {l : List Int} (t : Tag) (h : NRep tag B w N) (hok : TagOk tag w) (hj : N.sites[j]? = some (p : Int)) (hp : N.places[p]? = some P) (hl : N.history[j]? = some l) (hn : l.length ≤ 1000000) :
  Calls Try.prog 49 #[.pointer (some ⟨N.ptr,0,none⟩),.int .i64 (j : Int)] w fun e w' => ∃ v,e = .returned (.tuple #[v,.int .i64 0]) ∧ ∃ tag',Row tag' t 3 1 w' v l.length (ints l) ∧ Fr (fun _ => False) tag tag' w w' := by
 have HA := Lib.hid (at_ok h hok hj hp)
 obtain ⟨pv,sv,fv,cv,hv,yv,dv,hc,h2,h3,h4,⟨cvs,h5,h6⟩,h7,⟨yvs,h8,h9⟩,h10⟩ := h.cells
 obtain ⟨v,hv,hr⟩ := h9 j l hl
 obtain ⟨YA,ycap,rfl,q1,q2⟩ := h8.form
 unfold maxLen at q2
 have hjl := (List.getElem?_eq_some_iff.1 hl).1
 have hjl2 : j < yvs.length := (List.getElem?_eq_some_iff.1 hv).1
 obtain ⟨yb,rfl,_,_,hyc⟩ := h8.cell rfl (j:=j) hjl2
 obtain ⟨VA,vcap,rfl,q3,q4⟩ := hr.form
 have c5 : w.cell? ⟨N.ptr,5,none⟩ = some (.slice (some ⟨yb,0,none⟩) N.history.length ycap) := cell_of hc 5
 have e0 : w.cell? ⟨yb,j,none⟩ = some (.slice VA l.length vcap) := by rw [hyc]; exact hv
 have i1 : (0 : Int) ≤ (j : Int) := by omega
 have i2 : (j : Int) < (N.history.length : Int) := by omega
 have HRD := Lib.hid (hr.rd (ints_one l))
 clear h hj hp hc h2 h3 h4 h5 h6 h7 h8 h9 h10 hyc hv hr hl
 go_enter Try.func49,Try.ntmps49
 go_wp2_with (first
 | (
  go_at_call 100
  refine HA.out.mono ?_
  rintro e w1 ⟨rfl,hF1⟩
  have c5' := hF1.cellF c5
  have e0' := hF1.cellF e0
  have HF1 := Lib.hid hF1
  clear hF1)
 | (
  go_at_call 67
  refine (clone67_ok t l.length (ints l) w1 (HRD.out.frF HF1.out) HF1.out.dom (by omega)).mono ?_
  rintro e w2 ⟨v2,rfl,tag2,hr2,hF2⟩
  have HR2 := Lib.hid hr2
  have HF2 := Lib.hid (HF1.out.trans hF2)
  clear hr2 hF2))
 go_ret2
 exact ⟨_,rfl,tag2,HR2.out,HF2.out⟩
theorem there_ok (n : Int) (h : NRep tag B w N) :
  Calls Try.prog 99 #[.pointer (some ⟨N.ptr,0,none⟩),.int .i64 n] w fun e w' => e = .returned (.bool (decide (0 ≤ n) && decide (n < N.claims.length))) ∧ w' = w := by
 obtain ⟨pv,sv,fv,cv,hv,yv,dv,hc,h2,h3,h4,⟨cvs,h5,h6⟩,h7,⟨yvs,h8,h9⟩,h10⟩ := h.cells
 obtain ⟨CA,ccap,rfl,q1,q2⟩ := h5.form
 have c3 : w.cell? ⟨N.ptr,3,none⟩ = some (.slice CA N.claims.length ccap) := cell_of hc 3
 clear h hc h2 h3 h4 h5 h6 h7 h8 h9 h10
 cases hn : decide (0 ≤ n)
 ·go_enter Try.func99,Try.ntmps99
  go_wp2
  go_ret
  exact ⟨rfl,rfl⟩
 ·go_enter Try.func99,Try.ntmps99
  go_wp2
  go_ret
  exact ⟨rfl,rfl⟩
theorem nstatus_ok {n p : Nat} {P : PlaceM} {x : PropM} (h : NRep tag B w N) (hok : TagOk tag w) (hn : n < N.claims.length) (hh : N.homes[n]? = some (p : Int)) (hp : N.places[p]? = some P) (hx : find P.props n = some x) :
  Calls Try.prog 38 #[.pointer (some ⟨N.ptr,0,none⟩),.int .i64 (n : Int)] w fun e w' => e = .returned (.tuple #[.int .i64 x.state,.int .i64 0]) ∧ Fr (fun _ => False) tag tag w w' := by
 have HT := Lib.hid (there_ok n h)
 have HP := Lib.hid (h.places p P hp)
 obtain ⟨pv,sv,fv,cv,hv,yv,dv,hc,h2,h3,h4,⟨cvs,h5,h6⟩,h7,⟨yvs,h8,h9⟩,h10⟩ := h.cells
 obtain ⟨PA,pcap,rfl,q1,q2⟩ := h2.form
 obtain ⟨HA,hcap,rfl,q3,q4⟩ := h7.form
 unfold maxLen at q2 q4
 have hpl := (List.getElem?_eq_some_iff.1 hp).1
 have hhl := (List.getElem?_eq_some_iff.1 hh).1
 obtain ⟨pb,rfl,_,_,hpc⟩ := h2.cell rfl (j:=p) (by simpa using hpl)
 obtain ⟨hb,rfl,_,_,hhc⟩ := h7.cell rfl (j:=n) (by simpa [ints] using hhl)
 have c0 : w.cell? ⟨N.ptr,0,none⟩ = some (.slice (some ⟨pb,0,none⟩) N.places.length pcap) := cell_of hc 0
 have c4 : w.cell? ⟨N.ptr,4,none⟩ = some (.slice (some ⟨hb,0,none⟩) N.homes.length hcap) := cell_of hc 4
 have e0 : w.cell? ⟨pb,p,none⟩ = some (.pointer (some ⟨P.ptr,0,none⟩)) := by rw [hpc,List.getElem?_map,hp]; rfl
 have e1 : w.cell? ⟨hb,n,none⟩ = some (.int .i64 (p : Int)) := by rw [hhc,ints,List.getElem?_map,hh]; rfl
 have hth : (decide ((0 : Int) ≤ (n : Int)) && decide ((n : Int) < (N.claims.length : Int))) = true := by simp; omega
 have i1 : (0 : Int) ≤ (n : Int) := by omega
 have i2 : (n : Int) < (N.homes.length : Int) := by omega
 have i3 : (0 : Int) ≤ (p : Int) := by omega
 have i4 : (p : Int) < (N.places.length : Int) := by omega
 have HTH := Lib.hid hth
 have HX := Lib.hid hx
 clear h hc h2 h3 h4 h5 h6 h7 h8 h9 h10 hpc hhc hp hh hth hx hn
 go_enter Try.func38,Try.ntmps38
 go_wp2_with (go_at_call 99; refine HT.out.mono ?_; rw [HTH.out]; rintro e w1 ⟨rfl,hw⟩; replace hw := hw.symm; subst hw)
 have hst : ∀ q,Calls Try.prog 45 #[.pointer (some ⟨P.ptr,0,none⟩),.int .i64 (n : Int)] (w.drewN q) fun e w' => e = .returned (.tuple #[.int .i64 x.state,.int .i64 0]) ∧ w' = w.drewN q := fun q => by
  have := status_ok (n : Int) (HP.out.drewN hok q)
  rw [HX.out] at this
  exact this
 have HST := Lib.hid hst
 clear hst
 go_quiet ((go_at_call 45; exact Calls.quiet_at (HST.out _) ⟨_,rfl⟩))
 go_wp2
 go_ret2
 exact ⟨rfl,(Fr.refl hok).dN _⟩
theorem flight_ok (t : Tag) (h : NRep tag B w N) (hok : TagOk tag w) (hn : N.flight.length ≤ 1000000) :
  Calls Try.prog 42 #[.pointer (some ⟨N.ptr,0,none⟩)] w fun e w' => ∃ v,e = .returned v ∧ ∃ tag',Row tag' t 49 6 w' v N.flight.length (posts N.flight) ∧ Fr (fun _ => False) tag tag' w w' := by
 obtain ⟨pv,sv,fv,cv,hv,yv,dv,hc,h2,h3,h4,⟨cvs,h5,h6⟩,h7,⟨yvs,h8,h9⟩,h10⟩ := h.cells
 obtain ⟨FA,fcap,rfl,q1,q2⟩ := h4.form
 have c2 : w.cell? ⟨N.ptr,2,none⟩ = some (.slice FA N.flight.length fcap) := cell_of hc 2
 have HRD := Lib.hid (h4.rd (posts_one' _))
 clear h hc h2 h3 h4 h5 h6 h7 h8 h9 h10
 go_enter Try.func42,Try.ntmps42
 go_wp2_with (
  go_at_call 47
  refine (clone47_ok t N.flight.length (posts N.flight) w HRD.out hok (by omega)).mono ?_
  rintro e w2 ⟨v2,rfl,tag2,hr2,hF2⟩
  have HR2 := Lib.hid hr2
  have HF2 := Lib.hid hF2
  clear hr2 hF2)
 go_ret
 exact ⟨_,rfl,tag2,HR2.out,HF2.out⟩
end
section
variable {S : Tag → Prop} {tag tag' : Nat → Tag} {w w' : World} {B : Nat} {N : NetM}
theorem NRep.set_flight (h : NRep tag B w N) (hf : Fr S tag tag' w w') (hS : ∀ t,S t → t = (B,1,0) ∨ t = (B,4,0)) (l : List Post)
  (hc : ∀ pv sv fv cv hv yv dv,w.heap[N.ptr]? = some (.cells #[pv,sv,fv,cv,hv,yv,dv] 154 (0,0)) → ∃ fv',w'.heap[N.ptr]? = some (.cells #[pv,sv,fv',cv,hv,yv,dv] 154 (0,0)) ∧ Row tag' (B,4,0) 49 6 w' fv' l.length (posts l)) :
  NRep tag' B w' { N with flight := l } := by
 obtain ⟨pv,sv,fv,cv,hv,yv,dv,h1,h2,h3,h4,⟨cvs,h5,h6⟩,h7,⟨yvs,h8,h9⟩,h10⟩ := h.cells
 obtain ⟨fv',k1,k4⟩ := hc pv sv fv cv hv yv dv h1
 have no : ∀ r j,r ≠ 1 → r ≠ 4 → ¬ S (B,r,j) := fun r j a b hs => by
  rcases hS _ hs with e | e <;> simp_all
 refine ⟨h.b0,(hf.tag_eq h1).trans h.tptr,⟨pv,sv,fv',cv,hv,yv,dv,k1,h2.fr hf (no _ _ (by decide) (by decide)),h3.fr hf (no _ _ (by decide) (by decide)),k4,⟨cvs,h5.fr hf (no _ _ (by decide) (by decide)),fun i l hl => ?_⟩,h7.fr hf (no _ _ (by decide) (by decide)),⟨yvs,h8.fr hf (no _ _ (by decide) (by decide)),fun i l hl => ?_⟩,h10.fr hf (no _ _ (by decide) (by decide))⟩,fun i P hP => ?_⟩
 ·obtain ⟨v,hv,hr⟩ := h6 i l hl
  exact ⟨v,hv,hr.fr hf (no _ _ (by decide) (by decide))⟩
 ·obtain ⟨v,hv,hr⟩ := h9 i l hl
  exact ⟨v,hv,hr.fr hf (no _ _ (by decide) (by decide))⟩
 ·refine (h.places i P hP).fr hf (fun r j hs => ?_)
  rcases hS _ hs with e | e <;> simp at e <;> omega
theorem NRep.set_decided (h : NRep tag B w N) (hf : Fr S tag tag' w w') (hS : ∀ t,S t → t = (B,1,0) ∨ t = (B,10,0)) (l : List Int)
  (hc : ∀ pv sv fv cv hv yv dv,w.heap[N.ptr]? = some (.cells #[pv,sv,fv,cv,hv,yv,dv] 154 (0,0)) → ∃ dv',w'.heap[N.ptr]? = some (.cells #[pv,sv,fv,cv,hv,yv,dv'] 154 (0,0)) ∧ Row tag' (B,10,0) 3 1 w' dv' l.length (ints l)) :
  NRep tag' B w' { N with decided := l } := by
 obtain ⟨pv,sv,fv,cv,hv,yv,dv,h1,h2,h3,h4,⟨cvs,h5,h6⟩,h7,⟨yvs,h8,h9⟩,h10⟩ := h.cells
 obtain ⟨fv',k1,k4⟩ := hc pv sv fv cv hv yv dv h1
 have no : ∀ r j,r ≠ 1 → r ≠ 10 → ¬ S (B,r,j) := fun r j a b hs => by
  rcases hS _ hs with e | e <;> simp_all
 refine ⟨h.b0,(hf.tag_eq h1).trans h.tptr,⟨pv,sv,fv,cv,hv,yv,fv',k1,h2.fr hf (no _ _ (by decide) (by decide)),h3.fr hf (no _ _ (by decide) (by decide)),h4.fr hf (no _ _ (by decide) (by decide)),⟨cvs,h5.fr hf (no _ _ (by decide) (by decide)),fun i l hl => ?_⟩,h7.fr hf (no _ _ (by decide) (by decide)),⟨yvs,h8.fr hf (no _ _ (by decide) (by decide)),fun i l hl => ?_⟩,k4⟩,fun i P hP => ?_⟩
 ·obtain ⟨v,hv,hr⟩ := h6 i l hl
  exact ⟨v,hv,hr.fr hf (no _ _ (by decide) (by decide))⟩
 ·obtain ⟨v,hv,hr⟩ := h9 i l hl
  exact ⟨v,hv,hr.fr hf (no _ _ (by decide) (by decide))⟩
 ·refine (h.places i P hP).fr hf (fun r j hs => ?_)
  rcases hS _ hs with e | e <;> simp at e <;> omega
theorem NRep.set_history (h : NRep tag B w N) (hf : Fr S tag tag' w w') {j : Nat} (hj : j < N.history.length) (hS : ∀ t,S t → t = (B,8,0) ∨ t = (B,9,(j : Int))) (l : List Int)
  {pv0 sv0 fv0 cv0 hv0 yv0 dv0 v : Value} {yvs : List Value} (hc : w.heap[N.ptr]? = some (.cells #[pv0,sv0,fv0,cv0,hv0,yv0,dv0] 154 (0,0))) (hyl : yvs.length = N.history.length)
  (h9 : ∀ (i : Nat) (l : List Int),N.history[i]? = some l → ∃ v,yvs[i]? = some v ∧ Row tag (B,9,(i : Int)) 3 1 w v l.length (ints l))
  (k8 : Row tag' (B,8,0) 22 1 w' yv0 N.history.length (yvs.set j v)) (k9 : Row tag' (B,9,(j : Int)) 3 1 w' v l.length (ints l)) :
  NRep tag' B w' { N with history := N.history.set j l } := by
 obtain ⟨pv,sv,fv,cv,hv,yv,dv,h1,h2,h3,h4,⟨cvs,h5,h6⟩,h7,⟨yvs',h8,_⟩,h10⟩ := h.cells
 obtain ⟨rfl,rfl,rfl,rfl,rfl,rfl,rfl⟩ : pv0 = pv ∧ sv0 = sv ∧ fv0 = fv ∧ cv0 = cv ∧ hv0 = hv ∧ yv0 = yv ∧ dv0 = dv := by
  have := hc.symm.trans h1
  simpa using this
 have no : ∀ r i,r ≠ 8 → r ≠ 9 → ¬ S (B,r,i) := fun r i a b hs => by
  rcases hS _ hs with e | e <;> simp_all
 refine ⟨h.b0,(hf.tag_eq h1).trans h.tptr,⟨pv0,sv0,fv0,cv0,hv0,yv0,dv0,hf.heap h1 (by rw [h.tptr]; exact no _ _ (by decide) (by decide)),h2.fr hf (no _ _ (by decide) (by decide)),h3.fr hf (no _ _ (by decide) (by decide)),h4.fr hf (no _ _ (by decide) (by decide)),⟨cvs,h5.fr hf (no _ _ (by decide) (by decide)),fun i l hl => ?_⟩,h7.fr hf (no _ _ (by decide) (by decide)),⟨yvs.set j v,by simpa using k8,fun i l' hl => ?_⟩,h10.fr hf (no _ _ (by decide) (by decide))⟩,fun i P hP => ?_⟩
 ·obtain ⟨v,hv,hr⟩ := h6 i l hl
  exact ⟨v,hv,hr.fr hf (no _ _ (by decide) (by decide))⟩
 ·have hl' : (N.history.set j l)[i]? = some l' := hl
  rw [List.getElem?_set] at hl'
  by_cases e : j = i
  ·subst e
   simp [hj] at hl'
   subst hl'
   exact ⟨v,by simp [hyl,hj],k9⟩
  ·rw [if_neg e] at hl'
   obtain ⟨u,hu,hr⟩ := h9 i l' hl'
   refine ⟨u,by rw [List.getElem?_set,if_neg e]; exact hu,hr.fr hf (fun hs => ?_)⟩
   rcases hS _ hs with e' | e' <;> simp at e'
   omega
 ·refine (h.places i P hP).fr hf (fun r j hs => ?_)
  rcases hS _ hs with e | e <;> simp at e <;> omega
end
def noteM (N : NetM) (c : Came) : NetM :=
 if c.kind = 1 then { N with decided := N.decided ++ [c.prop] } else
 if c.kind = 3 then { N with history := N.history.set c.item.toNat (N.history.getD c.item.toNat [] ++ [c.prop]) } else N
def takeN (N : NetM) (l : List Post) (cs : List Came) : NetM := cs.foldl noteM { N with flight := N.flight ++ l }
theorem takeN_snoc (N : NetM) (l : List Post) (cs : List Came) (c : Came) : takeN N l (cs ++ [c]) = noteM (takeN N l cs) c := by
 simp [takeN,List.foldl_append]
theorem note_same (N : NetM) (c : Came) : (noteM N c).ptr = N.ptr ∧ (noteM N c).history.length = N.history.length ∧ (noteM N c).decided.length ≤ N.decided.length + 1 := by
 unfold noteM
 split
 ·simp
 ·split <;> simp
theorem note_hist (N : NetM) (c : Came) (j : Nat) : ((noteM N c).history.getD j []).length ≤ (N.history.getD j []).length + 1 := by
 unfold noteM
 split
 ·simp
 ·split
  ·simp only [List.getD_eq_getElem?_getD,List.getElem?_set]
   by_cases e : c.item.toNat = j
   ·subst e
    by_cases hl : c.item.toNat < N.history.length
    ·simp [hl]
    ·simp [hl]
   ·simp [e]
  ·simp
theorem notes_same : ∀ (cs : List Came) (N : NetM),(cs.foldl noteM N).ptr = N.ptr ∧ (cs.foldl noteM N).history.length = N.history.length ∧ (cs.foldl noteM N).decided.length ≤ N.decided.length + cs.length ∧ ∀ j,((cs.foldl noteM N).history.getD j []).length ≤ (N.history.getD j []).length + cs.length
 | [],N => ⟨rfl,rfl,by simp,fun j => by simp⟩
 | c :: cs,N => by
  obtain ⟨h1,h2,h3⟩ := note_same N c
  obtain ⟨g1,g2,g3,g4⟩ := notes_same cs (noteM N c)
  refine ⟨g1.trans h1,g2.trans h2,?_,fun j => ?_⟩
  ·simp only [List.foldl_cons,List.length_cons] at *; omega
  ·have h4 := note_hist N c j
   have h5 := g4 j
   simp only [List.foldl_cons,List.length_cons] at *; omega
theorem takeN_same (N : NetM) (l : List Post) (cs : List Came) : (takeN N l cs).ptr = N.ptr ∧ (takeN N l cs).history.length = N.history.length ∧ (takeN N l cs).decided.length ≤ N.decided.length + cs.length ∧ ∀ j,((takeN N l cs).history.getD j []).length ≤ (N.history.getD j []).length + cs.length :=
 notes_same cs _
end Go.Proofs.Ytclkokkppgchfaa
namespace Go.Ng
open Go Go.RowKit
section
variable {P : Program} {ops : Array Oper} {Q : Exit → Act → World → Prop} {tag : Nat → Tag} {t : Tag} {E sz : Nat} {w : World} {v : Value} {n : Nat} {ks : List Value}
theorem Row.append_any_run (h : Row tag t E sz w v n ks) (hok : TagOk tag w) (T ty : TypeId) (i : TypeInfo) (z : Value) (bytes : Nat) (hT : P.underlying T = some (.slice E)) (hi : P.info? E = some i) (hz : i.zero = some z)
  (hsize : i.size = sz) (hby : i.bytes = bytes) (hzs : z.cells.size = sz) (hsz : 0 < sz) {x : Value} {m : Nat} {news : List Value} (hx : Rd sz w x m news) (h63 : n + m ≤ maxLen) (hbytes : (n + m) * bytes ≤ 140737488355328) :
  ∃ A cap w' tag',(Builtin.append_ #[T,T] ty #[v,x]).run P w = .ok (.slice A (n + m) cap) w' ∧ Row tag' t E sz w' (.slice A (n + m) cap) (n + m) (ks ++ news) ∧ Fr (· = t) tag tag' w w' := by
 rcases Nat.eq_zero_or_pos m with rfl | hm
 ·obtain rfl : news = [] := List.eq_nil_of_length_eq_zero (by have := hx.len; omega)
  obtain ⟨A,cap,rfl,h1,h2⟩ := h.form
  obtain ⟨XA,c,rfl,_,_⟩ := hx.slice
  refine ⟨A,cap,w,tag,run_append_zero (P := P) T ty E i hT hi A n cap h1 XA c,?_,Fr.refl hok⟩
  rw [List.append_nil]; exact h
 ·rcases hx.form with ⟨rfl,rfl⟩ | ⟨b,off,cap,rfl,h2,h3,h4⟩
  ·omega
  ·obtain ⟨g,cap',w',tag',hr,h5,h6⟩ := h.append_run (P := P) hok T ty i z bytes hT hi hz hsize hby hzs hsz ⟨b,off,none⟩ m cap news hx.len (fun j u hu => by rw [add_lit]; exact h4 j u hu) hx.one hm h63 hbytes
   exact ⟨_,cap',w',tag',hr,h5,h6⟩
theorem append_any_list {rest : List Oper} {oi : Oper} {a : Act} (hg : oi.guard = none) (s x : Operand) (T : TypeId)
  (hop : oi.op = .call { callee := .builtin .append,args := #[s,x],argTypes := #[T,T] }) (hs : a.eval s = v) {xv : Value} (hx : a.eval x = xv)
  (h : Row tag t E sz w v n ks) (hok : TagOk tag w) {i : TypeInfo} {z : Value} {bytes : Nat} (hT : P.underlying T = some (.slice E)) (hi : P.info? E = some i) (hz : i.zero = some z)
  (hsize : i.size = sz) (hby : i.bytes = bytes) (hzs : z.cells.size = sz) (hsz : 0 < sz) {m : Nat} {news : List Value} (hxr : Rd sz w xv m news) (h63 : n + m ≤ maxLen) (hbytes : (n + m) * bytes ≤ 140737488355328)
  (hk : ∀ A cap w' tag',Row tag' t E sz w' (.slice A (n + m) cap) (n + m) (ks ++ news) → Fr (· = t) tag tag' w w' → wpList P ops Q rest (a.put oi.dst (.slice A (n + m) cap)) w') :
  wpList P ops Q (oi :: rest) a w :=
 wpList_plain hg fun K hK => by
  obtain ⟨A,cap,w',tag',hr,h2,h3⟩ := h.append_any_run (P := P) hok T oi.type i z bytes hT hi hz hsize hby hzs hsz hxr h63 hbytes
  unfold Oper.wp execOp
  simp only [hop,resolve,invoke,builtin,Sem.run_bind,Sem.run_pure,Result.andThen_ok,List.map_toArray,List.map_cons,List.map_nil,hs,hx,hr]
  exact hK _ _ (hk A cap w' tag' h2 h3)
end
end Go.Ng
namespace Go.Proofs.Ytclkokkppgchfaa
open Go.RowKit Go.Ng Go.Proofs.YtclkokkppgchfaaW.PrintLast
theorem Row.set_cell {tag : Nat → Tag} {t : Tag} {E : Nat} {w : World} {b n cap j : Nat} {ks : List Value} (h : Row tag t E 1 w (.slice (some ⟨b,0,none⟩) n cap) n ks) (hj : j < n) (u : Value) :
  Row tag t E 1 (w.setCell ⟨b,j,none⟩ u) (.slice (some ⟨b,0,none⟩) n cap) n (ks.set j u) := by
 have hkl : ks.length = n := by have := h.len; omega
 rcases h with ⟨h,ht⟩ | ⟨_,h0,_⟩
 ·refine .inl ⟨⟨by simp [hkl],?_⟩,ht⟩
  rcases h.2 with ⟨h',_⟩ | ⟨g,cap',cur,hv,h0,hg,h1,h2,h3,h4⟩
  ·cases h'
  ·injection hv with hv _ hc
   injection hv with hv
   injection hv with hv
   subst hv hc
   refine .inr ⟨b,cap,cur.setIfInBounds j u,rfl,h0,Go.Ng.heap_setCell_same hg j u,h1,h2,by simpa using h3,?_⟩
   rw [Array.toList_setIfInBounds,List.take_set,h4]
 ·omega
theorem cames_one (l : List Came) : ∀ u ∈ cames l,u.oneCell' = true := by
 intro u hu
 simp only [cames,List.mem_flatMap] at hu
 obtain ⟨p,_,hp⟩ := hu
 simp [Came.cells] at hp
 rcases hp with rfl | rfl | rfl <;> rfl
theorem posts_app (a b : List Post) : posts (a ++ b) = posts a ++ posts b := by simp [posts]
theorem ntake_ok {tag : Nat → Tag} {w : World} {B k : Nat} {N : NetM} {ov cv : Value} {l : List Post} {cs : List Came} (h : NRep tag B w N) (hok : TagOk tag w) (hk : k ≠ B) (ho : Row tag (k,5,0) 49 6 w ov l.length (posts l)) (hc : Row tag (k,6,0) 106 3 w cv cs.length (cames cs))
  (hit : ∀ c ∈ cs,c.kind = 3 → ∃ j : Nat,c.item = j ∧ j < N.history.length) (hf : N.flight.length ≤ 100000) (hl : l.length ≤ 100000) (hcl : cs.length ≤ 100000) (hd : N.decided.length ≤ 100000) (hh : ∀ j,(N.history.getD j []).length ≤ 100000) :
  Calls Try.prog 102 #[.pointer (some ⟨N.ptr,0,none⟩),ov,cv] w fun e w' => e = .returned (.tuple #[]) ∧ ∃ tag',NRep tag' B w' (takeN N l cs) ∧ Fr (fun t => t.1 = B) tag tag' w w' := by
 obtain ⟨i0,hi,hz0,hz1,hz2⟩ := info_parts Try.info49
 obtain ⟨j0,hj,hy0,hy1,hy2⟩ := info_parts Try.info3
 obtain ⟨pv,sv,fv,xv,hv,yv,dv,hce,h2,h3,h4,⟨cvs,h5,h6⟩,h7,⟨yvs,h8,h9⟩,h10⟩ := h.cells
 obtain ⟨FA,fcap,rfl,q1,q2⟩ := h4.form
 obtain ⟨OA,ocap,rfl,q3,q4⟩ := ho.form
 obtain ⟨CA,ccap,rfl,q5,q6⟩ := hc.form
 unfold maxLen at q2 q4 q6
 have c2 : w.cell? ⟨N.ptr,2,none⟩ = some (.slice FA N.flight.length fcap) := cell_of hce 2
 have hnl := lt_of_heap hce
 have HRO := Lib.hid (ho.rd (posts_one' l))
 have HC := Lib.hid hc
 have HN := Lib.hid h
 have HCE := Lib.hid hce
 have H4 := Lib.hid h4
 have HIT := Lib.hid hit
 have HH := Lib.hid hh
 clear h ho hc hce h2 h3 h4 h5 h6 h7 h8 h9 h10 hit hh
 go_enter Try.func102,Try.ntmps102
 go_wp2_with (
  at_builtin
  refine append_any_list rfl (.tmp 12) (.tmp 13) 24 rfl (by rfl) (by rfl) H4.out hok Try.underlying24 hi hz0 hz1 hz2 rfl (by decide) HRO.out (by unfold maxLen; omega) (by omega) ?_
  intro A1 cap1 w1 tag1 hrow hfr
  have hc1 := hfr.heap HCE.out (by rw [HN.out.tptr]; simp)
  have d2 : w1.cell? ⟨N.ptr,2,none⟩ = some (.slice FA N.flight.length fcap) := cell_of hc1 2
  have f2 := free_of hc1 2
  have HC1 := Lib.hid hc1
  have HROW := Lib.hid hrow
  have HF1 := Lib.hid hfr
  clear hc1 hrow hfr)
 obtain ⟨w2,hw2⟩ : ∃ w2,w2 = w1.setCell ⟨N.ptr,2,none⟩ (.slice A1 (N.flight.length + l.length) cap1) := ⟨_,rfl⟩
 rw [← hw2]
 have ht1 : tag1 N.ptr = (B,1,0) := (HF1.out.same _ hnl).trans HN.out.tptr
 have hF2 : Fr (· = (B,1,0)) tag1 tag1 w1 w2 := by rw [hw2]; exact Fr.setCell HF1.out.dom (a := ⟨N.ptr,2,none⟩) ht1 _
 have hF12 : Fr (fun t => t = (B,1,0) ∨ t = (B,4,0)) tag tag1 w w2 := (HF1.out.mono (fun _ h => .inr h)).trans (hF2.mono (fun _ h => .inl h))
 have hN2 : NRep tag1 B w2 { N with flight := N.flight ++ l } := by
  refine HN.out.set_flight hF12 (fun _ h => h) (N.flight ++ l) ?_
  intro pv' sv' fv' cv' hv' yv' dv' hx
  obtain ⟨rfl,rfl,rfl,rfl,rfl,rfl,rfl⟩ : pv' = pv ∧ sv' = sv ∧ fv' = _ ∧ cv' = xv ∧ hv' = hv ∧ yv' = yv ∧ dv' = dv := by
   have := hx.symm.trans HCE.out
   simpa using this
  refine ⟨.slice A1 (N.flight.length + l.length) cap1,?_,?_⟩
  ·rw [hw2,Go.Ng.heap_setCell_same HC1.out]; rfl
  ·rw [List.length_append,posts_app]
   exact HROW.out.fr hF2 (by simp)
 have HN2 := Lib.hid hN2
 have HF12 := Lib.hid hF12
 clear hw2 ht1 hF2 hF12 hN2 d2 f2 HC1 HROW HF1 H4
 go_loopw [19] (fun i wr => ∃ n : Nat,n ≤ cs.length ∧ i = .int .i64 n ∧ ∃ tagr,Hid (NRep tagr B wr (takeN N l (cs.take n))) ∧ Hid (Fr (fun t => t.1 = B) tag tagr w wr)) (fun i _ => cs.length - (intOf i).toNat)
 case atStart => exact ⟨0,Nat.zero_le _,rfl,tag1,HN2,Lib.hid (HF12.out.mono (fun t h => by rcases h with h | h <;> rw [h]))⟩
 case round =>
  obtain ⟨n,hn,rfl,tagr,HM,HFr⟩ := hrel
  by_cases hlt : n < cs.length
  ·obtain ⟨⟨ck,cp,ci⟩,hx⟩ : ∃ c,cs[n]? = some c := ⟨_,List.getElem?_eq_getElem hlt⟩
   have hmem := List.mem_of_getElem? hx
   obtain ⟨cb,rfl,hbt,hb5,hcel⟩ := Row.elem (enc := Came.cells) HC.out (fun _ => rfl) (by decide) hx
   have hkb : ¬ (tag cb).1 = B := by rw [hbt]; exact hk
   have e0 : wr.cell? ⟨cb,n * 3,none⟩ = some (.int .i64 ck) := HFr.out.cell (hcel 0 _ rfl) hkb
   have e1 : wr.cell? ⟨cb,n * 3 + 1,none⟩ = some (.int .i64 cp) := HFr.out.cell (hcel 1 _ rfl) hkb
   have e2 : wr.cell? ⟨cb,n * 3 + 2,none⟩ = some (.int .i64 ci) := HFr.out.cell (hcel 2 _ rfl) hkb
   have htk : cs.take (n + 1) = cs.take n ++ [⟨ck,cp,ci⟩] := by
    rw [List.take_succ_eq_append_getElem hlt]
    congr 2
    exact (List.getElem?_eq_some_iff.1 hx).2
   have HT := Lib.hid htk
   have i5 : (0 : Int) ≤ (n : Int) := by omega
   have i6 : (n : Int) < (cs.length : Int) := by omega
   have hokr := HFr.out.dom
   have hsm := takeN_same N l (cs.take n)
   have hct : (cs.take n).length ≤ 100000 := by rw [List.length_take]; omega
   have hitm := HIT.out _ hmem
   obtain ⟨M,hM⟩ : ∃ M,M = takeN N l (cs.take n) := ⟨_,rfl⟩
   rw [← hM] at HM hsm
   have HEM := Lib.hid hM
   have HS := Lib.hid hsm
   obtain ⟨mpv,msv,mfv,mxv,mhv,myv,mdv,mce,m2,m3,m4,m5,m7,⟨myvs,m8,m9⟩,m10⟩ := HM.out.cells
   have hmp := hsm.1
   rw [hmp] at mce
   have HMC := Lib.hid mce
   have hpl := lt_of_heap mce
   have hmt : tagr N.ptr = (B,1,0) := by rw [← hmp]; exact HM.out.tptr
   have HMT := Lib.hid hmt
   have HMP := Lib.hid hmp
   clear hx hmem hcel htk hsm hM m2 m3 m4 m5 m7 hmt hmp
   by_cases hk1 : ck = 1
   ·subst hk1
    obtain ⟨DA,dcap,rfl,g1,g2⟩ := m10.form
    unfold maxLen at g2
    have c6 : wr.cell? ⟨N.ptr,6,none⟩ = some (.slice DA M.decided.length dcap) := cell_of mce 6
    have H10 := Lib.hid m10
    have hdl : M.decided.length ≤ 200000 := by have := HS.out.2.2.1; omega
    clear mce m8 m9 m10
    go_wp2_with fail
    refine start_ (n:=12) (S:=fun w' => w'.cell? ⟨N.ptr,6,none⟩ = some (.slice DA M.decided.length dcap) ∧ w'.cell? ⟨wr.heap.size,1,none⟩ = some (.int .i64 cp)) (ds := [11]) #[f_,f_,f_,f_,f_,f_,f_,f_,f_,f_,f_,f_] (by kernel_rfl) rfl rfl ⟨ca c6 _,by go_simp⟩ (fun hHeld => ?_)
    refine pv_ (i:=0) (N:=some 27) (v:=?_) (a':=?_) rfl rfl (by kernel_rfl) (fun _ _ _ h => h) (Or.inl ⟨by rfl,?_⟩) ?_ ?_
    rotate_left;intro w';go_simp;with_reducible rfl;rotate_left;simp only [Act.put,sA_,sB_,sC_,i64_w,i32_w];rfl
    refine pv_ (i:=1) (N:=some 28) (v:=?_) (a':=?_) rfl rfl (by kernel_rfl) (fun _ _ _ h => h) (Or.inl ⟨by rfl,?_⟩) ?_ ?_
    rotate_left;intro w';go_simp;with_reducible rfl;rotate_left;simp only [Act.put,sA_,sB_,sC_,i64_w,i32_w];rfl
    refine pv_ (i:=2) (N:=some 29) (v:=?_) (a':=?_) rfl rfl (by kernel_rfl) (fun _ _ _ h => h) (Or.inl ⟨by rfl,?_⟩) ?_ ?_
    rotate_left;intro w';go_simp;with_reducible rfl;rotate_left;simp only [Act.put,sA_,sB_,sC_,i64_w,i32_w];rfl
    refine pv_ (i:=3) (N:=some 30) (v:=?_) (a':=?_) rfl rfl (by kernel_rfl) (fun _ _ _ h => h) (Or.inl ⟨by rfl,?_⟩) ?_ ?_
    rotate_left;intro w';go_simp;with_reducible rfl;rotate_left;simp only [Act.put,sA_,sB_,sC_,i64_w,i32_w];rfl
    refine pv_ (i:=5) (N:=some 32) (v:=?_) (a':=?_) rfl rfl (by kernel_rfl) (fun _ _ _ h => h) (Or.inl ⟨by rfl,?_⟩) ?_ ?_
    rotate_left;intro w';go_simp;with_reducible rfl;rotate_left;simp only [Act.put,sA_,sB_,sC_,i64_w,i32_w];rfl
    refine tv_ (i:=4) (N:=some 31) (v:=?_) (a':=?_) rfl rfl (by kernel_rfl) (fun _ _ _ h => h) (Or.inl ⟨by rfl,?_⟩) hHeld ?_ ?_
    rotate_left;rintro w' ⟨s0,s1⟩;go_simp;with_reducible rfl;rotate_left;simp only [Act.put,sA_,sB_,sC_,i64_w,i32_w];rfl
    refine tv_ (i:=6) (N:=some 33) (v:=?_) (a':=?_) rfl rfl (by kernel_rfl) (fun _ _ _ h => h) (Or.inl ⟨by rfl,?_⟩) hHeld ?_ ?_
    rotate_left;rintro w' ⟨s0,s1⟩;go_simp;with_reducible rfl;rotate_left;simp only [Act.put,sA_,sB_,sC_,i64_w,i32_w];rfl
    refine one_ (i:=7) (N:=some 34) #[t_,t_,t_,t_,t_,t_,t_,t_,f_,f_,f_,f_] rfl rfl (by kernel_rfl) (by decide) (fun K hK => ?_)
    refine value_ (w1:=?_) (v:=?_) (by rfl) rfl ?_ ?_
    rotate_left 2
    ·go_simp
     constructor
     ·rfl
     ·rfl
    refine hK.out _ _ ⟨(ca hHeld.1 _),(ca hHeld.2 _)⟩ (fun hHeld => ?_)
    clear hK K
    refine norm_ (a':=?_) ?_ ?_
    rotate_left
    ·show Act.put _ (some 34) _ = _
     simp only [Act.put,sA_,sB_,sC_,i64_w,i32_w]
     rfl
    refine one_ (i:=8) (N:=some 35) #[t_,t_,t_,t_,t_,t_,t_,t_,t_,f_,f_,f_] rfl rfl (by kernel_rfl) (by decide) (fun K hK => ?_)
    refine append_arm (by rfl) rfl (.tmp 31) (.tmp 34) 22 rfl (by rfl) (by rfl) ((H10.out.alloc _).alloc _).drew ((hokr.alloc _).alloc _).drew Try.underlying22 hj hy0 hy1 hy2 rfl (by decide) [.int .i64 cp] rfl (news_at (heap_alloc_at1 _ _ _)) (by simp [Value.oneCell']) (by decide) (by unfold maxLen; omega) (by omega) ?_
    intro g cap5 w5 tag5 hrow hfr
    have hc5 := Lib.hid (hfr.heap (heap_alloc_lt (heap_alloc_lt HMC.out _) _) (by rw [HMT.out]; simp))
    have d6 : w5.cell? ⟨N.ptr,6,none⟩ = some (.slice DA M.decided.length dcap) := cell_of hc5.out 6
    have d1 : w5.cell? ⟨wr.heap.size,1,none⟩ = some (.int .i64 cp) := hfr.cell (by go_simp) (new_ne hokr HM.out.b0)
    have f6 := free_of hc5.out 6
    refine hK.out _ _ ⟨d6,d1⟩ (fun hHeld => ?_)
    clear hK K
    refine norm_ (a':=?_) ?_ ?_
    rotate_left
    ·show Act.put _ (some 35) _ = _
     simp only [Act.put,sA_,sB_,sC_,i64_w,i32_w]
     rfl
    refine pv_ (i:=9) (N:=some 36) (v:=?_) (a':=?_) rfl rfl (by kernel_rfl) (fun _ _ _ h => h) (Or.inl ⟨by rfl,?_⟩) ?_ ?_
    rotate_left;intro w';go_simp;with_reducible rfl;rotate_left;simp only [Act.put,sA_,sB_,sC_,i64_w,i32_w];rfl
    refine pv_ (i:=10) (N:=some 37) (v:=?_) (a':=?_) rfl rfl (by kernel_rfl) (fun _ _ _ h => h) (Or.inl ⟨by rfl,?_⟩) ?_ ?_
    rotate_left;intro w';go_simp;with_reducible rfl;rotate_left;simp only [Act.put,sA_,sB_,sC_,i64_w,i32_w];rfl
    refine last_ (i:=11) (N:=none) #[t_,t_,t_,t_,t_,t_,t_,t_,t_,t_,t_,t_] rfl rfl (by kernel_rfl) (by decide) (fun K hK => ?_)
    refine skip_ (w1:=?_) (by rfl) rfl ?_ ?_
    rotate_left
    ·go_simp
     rfl
    refine hK.out _ _ ?_
    clear hK K
    refine done_ (by kernel_rfl) ?_
    clear hHeld
    have HROW := Lib.hid hrow
    have hF5 : Fr (fun t => t = (B,1,0) ∨ t = (B,10,0)) tagr tag5 wr w5 := (((Fr.refl hokr).al _).al _).dr.trans (hfr.mono (fun _ h => .inr h))
    have HF5 := Lib.hid hF5
    clear hF5 hfr hrow
    go_wp2_with fail
    go_roundw
    case rel =>
     have ht5 : tag5 N.ptr = (B,1,0) := (HF5.out.same _ hpl).trans HMT.out
     have hFs : Fr (fun t => t = (B,1,0)) tag5 tag5 w5 (w5.setCell ⟨N.ptr,6,none⟩ (.slice (some ⟨g,0,none⟩) (M.decided.length + 1) cap5)) := Fr.setCell HF5.out.dom (a := ⟨N.ptr,6,none⟩) ht5 _
     have hFe := HF5.out.trans (hFs.mono (S' := fun t => t = (B,1,0) ∨ t = (B,10,0)) (fun _ h => .inl h))
     refine ⟨n + 1,by omega,by go_num,tag5,Lib.hid ?_,Lib.hid (HFr.out.trans (hFe.mono (fun t h => by rcases h with h | h <;> rw [h])))⟩
     rw [HT.out,takeN_snoc,← HEM.out]
     have hnm : noteM M ⟨1,cp,ci⟩ = { M with decided := M.decided ++ [cp] } := by simp [noteM]
     rw [hnm]
     refine HM.out.set_decided hFe (fun _ h => h) _ ?_
     intro pv' sv' fv' cv' hv' yv' dv' hx
     rw [HMP.out] at hx ⊢
     obtain ⟨rfl,rfl,rfl,rfl,rfl,rfl,rfl⟩ : pv' = mpv ∧ sv' = msv ∧ fv' = mfv ∧ cv' = mxv ∧ hv' = mhv ∧ yv' = myv ∧ dv' = _ := by
      have := hx.symm.trans HMC.out
      simpa using this
     refine ⟨.slice (some ⟨g,0,none⟩) (M.decided.length + 1) cap5,?_,?_⟩
     ·rw [Go.Ng.heap_setCell_same hc5.out]; rfl
     ·rw [List.length_append,ints_snoc]
      exact HROW.out.fr hFs (by simp)
    case measure => simp [intOf]; omega
   ·have hk1' : (ck == 1) = false := by rw [beq_eq_false_iff_ne]; exact hk1
    by_cases hk3 : ck = 3
    ·subst hk3
     obtain ⟨j,hji,hjl⟩ := hitm rfl
     simp only at hji
     subst hji
     have hjl2 : j < M.history.length := by rw [HS.out.2.1]; exact hjl
     obtain ⟨hl0,hhl⟩ : ∃ h,M.history[j]? = some h := ⟨_,List.getElem?_eq_getElem hjl2⟩
     obtain ⟨yu,hyu,hyr⟩ := m9 j hl0 hhl
     obtain ⟨YA,ycap,rfl,g1,g2⟩ := m8.form
     obtain ⟨UA,ucap,rfl,g3,g4⟩ := hyr.form
     unfold maxLen at g2 g4
     have hyl : j < myvs.length := (List.getElem?_eq_some_iff.1 hyu).1
     obtain ⟨yb,rfl,hybt,hyb,hyc⟩ := m8.cell rfl (j:=j) hyl
     obtain ⟨yb',ycap',ycur,hyv',_,hyheap,_,_,_⟩ := m8.block (by omega)
     injection hyv' with hyv' _ _
     injection hyv' with hyv'
     injection hyv' with hyv'
     subst hyv'
     have c5 : wr.cell? ⟨N.ptr,5,none⟩ = some (.slice (some ⟨yb,0,none⟩) M.history.length ycap) := cell_of mce 5
     have u0 : wr.cell? ⟨yb,j,none⟩ = some (.slice UA hl0.length ucap) := by rw [hyc]; exact hyu
     have hul : hl0.length ≤ 200000 := by
      have h1 := HS.out.2.2.2 j
      have h2 := HH.out j
      have h3 : M.history.getD j [] = hl0 := by simp [hhl]
      rw [h3] at h1
      omega
     have i7 : (0 : Int) ≤ (j : Int) := by omega
     have i8 : (j : Int) < (M.history.length : Int) := by omega
     have H8 := Lib.hid m8
     have HU := Lib.hid hyr
     have HHL := Lib.hid hhl
     have HYH := Lib.hid hyheap
     have H9 := Lib.hid m9
     have HYL : Hid (myvs.length = M.history.length) := Lib.hid (by have := m8.len; omega)
     clear mce m8 m9 m10 hyu hyr hyc hhl hyheap
     go_wp2_with fail
     refine start_ (n:=20) (S:=fun w' => w'.cell? ⟨N.ptr,5,none⟩ = some (.slice (some ⟨yb,0,none⟩) M.history.length ycap) ∧ w'.cell? ⟨yb,j,none⟩ = some (.slice UA hl0.length ucap) ∧ w'.cell? ⟨wr.heap.size,1,none⟩ = some (.int .i64 cp) ∧ w'.cell? ⟨wr.heap.size,2,none⟩ = some (.int .i64 (j : Int))) (ds := [19]) #[f_,f_,f_,f_,f_,f_,f_,f_,f_,f_,f_,f_,f_,f_,f_,f_,f_,f_,f_,f_] (by kernel_rfl) rfl rfl ⟨ca c5 _,ca u0 _,by go_simp,by go_simp⟩ (fun hHeld => ?_)
     refine pv_ (i:=0) (N:=some 40) (v:=?_) (a':=?_) rfl rfl (by kernel_rfl) (fun _ _ _ h => h) (Or.inl ⟨by rfl,?_⟩) ?_ ?_
     rotate_left;intro w';go_simp;with_reducible rfl;rotate_left;simp only [Act.put,sA_,sB_,sC_,i64_w,i32_w];rfl
     refine pv_ (i:=1) (N:=some 41) (v:=?_) (a':=?_) rfl rfl (by kernel_rfl) (fun _ _ _ h => h) (Or.inl ⟨by rfl,?_⟩) ?_ ?_
     rotate_left;intro w';go_simp;with_reducible rfl;rotate_left;simp only [Act.put,sA_,sB_,sC_,i64_w,i32_w];rfl
     refine pv_ (i:=2) (N:=some 42) (v:=?_) (a':=?_) rfl rfl (by kernel_rfl) (fun _ _ _ h => h) (Or.inl ⟨by rfl,?_⟩) ?_ ?_
     rotate_left;intro w';go_simp;with_reducible rfl;rotate_left;simp only [Act.put,sA_,sB_,sC_,i64_w,i32_w];rfl
     refine pv_ (i:=4) (N:=some 44) (v:=?_) (a':=?_) rfl rfl (by kernel_rfl) (fun _ _ _ h => h) (Or.inl ⟨by rfl,?_⟩) ?_ ?_
     rotate_left;intro w';go_simp;with_reducible rfl;rotate_left;simp only [Act.put,sA_,sB_,sC_,i64_w,i32_w];rfl
     refine pv_ (i:=6) (N:=some 46) (v:=?_) (a':=?_) rfl rfl (by kernel_rfl) (fun _ _ _ h => h) (Or.inl ⟨by rfl,?_⟩) ?_ ?_
     rotate_left;intro w';go_simp;with_reducible rfl;rotate_left;simp only [Act.put,sA_,sB_,sC_,i64_w,i32_w];rfl
     refine pv_ (i:=7) (N:=some 47) (v:=?_) (a':=?_) rfl rfl (by kernel_rfl) (fun _ _ _ h => h) (Or.inl ⟨by rfl,?_⟩) ?_ ?_
     rotate_left;intro w';go_simp;with_reducible rfl;rotate_left;simp only [Act.put,sA_,sB_,sC_,i64_w,i32_w];rfl
     refine pv_ (i:=8) (N:=some 48) (v:=?_) (a':=?_) rfl rfl (by kernel_rfl) (fun _ _ _ h => h) (Or.inl ⟨by rfl,?_⟩) ?_ ?_
     rotate_left;intro w';go_simp;with_reducible rfl;rotate_left;simp only [Act.put,sA_,sB_,sC_,i64_w,i32_w];rfl
     refine pv_ (i:=10) (N:=some 50) (v:=?_) (a':=?_) rfl rfl (by kernel_rfl) (fun _ _ _ h => h) (Or.inl ⟨by rfl,?_⟩) ?_ ?_
     rotate_left;intro w';go_simp;with_reducible rfl;rotate_left;simp only [Act.put,sA_,sB_,sC_,i64_w,i32_w];rfl
     refine pv_ (i:=14) (N:=some 54) (v:=?_) (a':=?_) rfl rfl (by kernel_rfl) (fun _ _ _ h => h) (Or.inl ⟨by rfl,?_⟩) ?_ ?_
     rotate_left;intro w';go_simp;with_reducible rfl;rotate_left;simp only [Act.put,sA_,sB_,sC_,i64_w,i32_w];rfl
     refine tv_ (i:=3) (N:=some 43) (v:=?_) (a':=?_) rfl rfl (by kernel_rfl) (fun _ _ _ h => h) (Or.inl ⟨by rfl,?_⟩) hHeld ?_ ?_
     rotate_left;rintro w' ⟨s0,s1,s2,s3⟩;go_simp;with_reducible rfl;rotate_left;simp only [Act.put,sA_,sB_,sC_,i64_w,i32_w];rfl
     refine tv_ (i:=5) (N:=some 45) (v:=?_) (a':=?_) rfl rfl (by kernel_rfl) (fun _ _ _ h => h) (Or.inl ⟨by rfl,?_⟩) hHeld ?_ ?_
     rotate_left;rintro w' ⟨s0,s1,s2,s3⟩;go_simp;with_reducible rfl;rotate_left;simp only [Act.put,sA_,sB_,sC_,i64_w,i32_w];rfl
     refine tv_ (i:=9) (N:=some 49) (v:=?_) (a':=?_) rfl rfl (by kernel_rfl) (fun _ _ _ h => h) (Or.inl ⟨by rfl,?_⟩) hHeld ?_ ?_
     rotate_left;rintro w' ⟨s0,s1,s2,s3⟩;go_simp;with_reducible rfl;rotate_left;simp only [Act.put,sA_,sB_,sC_,i64_w,i32_w];rfl
     refine tv_ (i:=11) (N:=some 51) (v:=?_) (a':=?_) rfl rfl (by kernel_rfl) (fun _ _ _ h => h) (Or.inl ⟨by rfl,?_⟩) hHeld ?_ ?_
     rotate_left;rintro w' ⟨s0,s1,s2,s3⟩;go_simp;with_reducible rfl;rotate_left;simp only [Act.put,sA_,sB_,sC_,i64_w,i32_w];rfl
     refine pv_ (i:=12) (N:=some 52) (v:=?_) (a':=?_) rfl rfl (by kernel_rfl) (fun _ _ _ h => h) (Or.inl ⟨by rfl,?_⟩) ?_ ?_
     rotate_left;intro w';go_simp;with_reducible rfl;rotate_left;simp only [Act.put,sA_,sB_,sC_,i64_w,i32_w];rfl
     refine tv_ (i:=13) (N:=some 53) (v:=?_) (a':=?_) rfl rfl (by kernel_rfl) (fun _ _ _ h => h) (Or.inl ⟨by rfl,?_⟩) hHeld ?_ ?_
     rotate_left;rintro w' ⟨s0,s1,s2,s3⟩;go_simp;with_reducible rfl;rotate_left;simp only [Act.put,sA_,sB_,sC_,i64_w,i32_w];rfl
     refine tv_ (i:=15) (N:=some 55) (v:=?_) (a':=?_) rfl rfl (by kernel_rfl) (fun _ _ _ h => h) (Or.inl ⟨by rfl,?_⟩) hHeld ?_ ?_
     rotate_left;rintro w' ⟨s0,s1,s2,s3⟩;go_simp;with_reducible rfl;rotate_left;simp only [Act.put,sA_,sB_,sC_,i64_w,i32_w];rfl
     refine one_ (i:=16) (N:=some 56) #[t_,t_,t_,t_,t_,t_,t_,t_,t_,t_,t_,t_,t_,t_,t_,t_,t_,f_,f_,f_] rfl rfl (by kernel_rfl) (by decide) (fun K hK => ?_)
     refine value_ (w1:=?_) (v:=?_) (by rfl) rfl ?_ ?_
     rotate_left 2
     ·go_simp
      constructor
      ·rfl
      ·rfl
     refine hK.out _ _ ⟨(ca hHeld.1 _),(ca hHeld.2.1 _),(ca hHeld.2.2.1 _),(ca hHeld.2.2.2 _)⟩ (fun hHeld => ?_)
     clear hK K
     refine norm_ (a':=?_) ?_ ?_
     rotate_left
     ·show Act.put _ (some 56) _ = _
      simp only [Act.put,sA_,sB_,sC_,i64_w,i32_w]
      rfl
     refine one_ (i:=17) (N:=some 57) #[t_,t_,t_,t_,t_,t_,t_,t_,t_,t_,t_,t_,t_,t_,t_,t_,t_,t_,f_,f_] rfl rfl (by kernel_rfl) (by decide) (fun K hK => ?_)
     refine append_arm (by rfl) rfl (.tmp 53) (.tmp 56) 22 rfl (by rfl) (by rfl) ((HU.out.alloc _).alloc _).drew ((hokr.alloc _).alloc _).drew Try.underlying22 hj hy0 hy1 hy2 rfl (by decide) [.int .i64 cp] rfl (news_at (heap_alloc_at1 _ _ _)) (by simp [Value.oneCell']) (by decide) (by unfold maxLen; omega) (by omega) ?_
     intro g cap5 w5 tag5 hrow hfr
     have hc5 := Lib.hid (hfr.heap (heap_alloc_lt (heap_alloc_lt HMC.out _) _) (by rw [HMT.out]; simp))
     have hy5 := Lib.hid (hfr.heap (heap_alloc_lt (heap_alloc_lt HYH.out _) _) (by rw [hybt]; simp))
     have d5 : w5.cell? ⟨N.ptr,5,none⟩ = some (.slice (some ⟨yb,0,none⟩) M.history.length ycap) := cell_of hc5.out 5
     have du : w5.cell? ⟨yb,j,none⟩ = some (.slice UA hl0.length ucap) := hfr.cell (by go_simp) (by simp [hybt])
     have d1 : w5.cell? ⟨wr.heap.size,1,none⟩ = some (.int .i64 cp) := hfr.cell (by go_simp) (new_ne hokr HM.out.b0)
     have d2 : w5.cell? ⟨wr.heap.size,2,none⟩ = some (.int .i64 (j : Int)) := hfr.cell (by go_simp) (new_ne hokr HM.out.b0)
     have f6 := free_of hy5.out j
     refine hK.out _ _ ⟨d5,du,d1,d2⟩ (fun hHeld => ?_)
     clear hK K
     refine norm_ (a':=?_) ?_ ?_
     rotate_left
     ·show Act.put _ (some 57) _ = _
      simp only [Act.put,sA_,sB_,sC_,i64_w,i32_w]
      rfl
     refine pv_ (i:=18) (N:=some 58) (v:=?_) (a':=?_) rfl rfl (by kernel_rfl) (fun _ _ _ h => h) (Or.inl ⟨by rfl,?_⟩) ?_ ?_
     rotate_left;intro w';go_simp;with_reducible rfl;rotate_left;simp only [Act.put,sA_,sB_,sC_,i64_w,i32_w];rfl
     refine last_ (i:=19) (N:=none) #[t_,t_,t_,t_,t_,t_,t_,t_,t_,t_,t_,t_,t_,t_,t_,t_,t_,t_,t_,t_] rfl rfl (by kernel_rfl) (by decide) (fun K hK => ?_)
     refine skip_ (w1:=?_) (by rfl) rfl ?_ ?_
     rotate_left
     ·go_simp
      rfl
     refine hK.out _ _ ?_
     clear hK K
     refine done_ (by kernel_rfl) ?_
     clear hHeld
     have HROW := Lib.hid hrow
     have hF5 : Fr (fun t => t = (B,9,(j : Int))) tagr tag5 wr w5 := (((Fr.refl hokr).al _).al _).dr.trans hfr
     have HF5 := Lib.hid hF5
     clear hF5 hfr hrow
     go_wp2_with fail
     go_roundw
     case rel =>
      have hty : tag5 yb = (B,8,0) := (HF5.out.same _ hyb).trans hybt
      have hFs : Fr (fun t => t = (B,8,0)) tag5 tag5 w5 (w5.setCell ⟨yb,j,none⟩ (.slice (some ⟨g,0,none⟩) (hl0.length + 1) cap5)) := Fr.setCell HF5.out.dom (a := ⟨yb,j,none⟩) hty _
      have hFe : Fr (fun t => t = (B,8,0) ∨ t = (B,9,(j : Int))) tagr tag5 wr _ := (HF5.out.mono (fun _ h => .inr h)).trans (hFs.mono (fun _ h => .inl h))
      refine ⟨n + 1,by omega,by go_num,tag5,Lib.hid ?_,Lib.hid (HFr.out.trans (hFe.mono (fun t h => by rcases h with h | h <;> rw [h])))⟩
      rw [HT.out,takeN_snoc,← HEM.out]
      have hnm : noteM M ⟨3,cp,(j : Int)⟩ = { M with history := M.history.set j (hl0 ++ [cp]) } := by
       have h3 : M.history[j]? = some hl0 := HHL.out
       simp [noteM,h3]
      rw [hnm]
      refine HM.out.set_history hFe hjl2 (fun _ h => h) _ (by rw [HMP.out]; exact HMC.out) HYL.out H9.out ?_ (v:=.slice (some ⟨g,0,none⟩) (hl0.length + 1) cap5) ?_
      ·exact Row.set_cell (H8.out.fr HF5.out (by simp)) hjl2 _
      ·rw [List.length_append,ints_snoc]
       exact HROW.out.fr hFs (by simp)
     case measure => simp [intOf]; omega
    ·have hk3' : (ck == 3) = false := by rw [beq_eq_false_iff_ne]; exact hk3
     clear mce m8 m9 m10
     go_wp2_with fail
     go_roundw
     case rel =>
      refine ⟨n + 1,by omega,by go_num,tagr,Lib.hid ?_,Lib.hid (HFr.out.al _)⟩
      rw [HT.out,takeN_snoc,← HEM.out]
      have hnm : noteM M ⟨ck,cp,ci⟩ = M := by simp [noteM,hk1,hk3]
      rw [hnm]
      exact HM.out.fr (Fr.alloc (S:=fun _ => False) hokr _) (fun _ _ _ _ h => h)
     case measure => simp [intOf]; omega
  ·have : n = cs.length := by omega
   subst this
   go_wp2
   go_end0
   have hM := HM.out
   rw [List.take_length] at hM
   exact ⟨rfl,tagr,hM,HFr.out⟩
section
variable {tag : Nat → Tag} {w : World} {B : Nat} {N : NetM}
theorem flight_cell (h : NRep tag B w N) : ∃ FA fcap,w.cell? ⟨N.ptr,2,none⟩ = some (.slice FA N.flight.length fcap) := by
 obtain ⟨pv,sv,fv,xv,hv',yv,dv,hce,h2,h3,h4,_⟩ := h.cells
 obtain ⟨FA,fcap,rfl,q3,q4⟩ := h4.form
 exact ⟨FA,fcap,cell_of hce 2⟩
theorem deliver_out (n : Int) (h : NRep tag B w N) (hn : n < 0 ∨ (N.flight.length : Int) ≤ n) :
  Calls Try.prog 61 #[.pointer (some ⟨N.ptr,0,none⟩),.int .i64 n] w fun e w' => e = .returned (.tuple #[.slice none 0 0,.int .i64 272]) ∧ w' = w := by
 obtain ⟨FA,fcap,c2⟩ := flight_cell h
 clear h
 by_cases h0 : n < 0
 ·have h1 : decide (n < 0) = true := by simpa using h0
  clear hn h0
  go_enter Try.func61,Try.ntmps61
  go_wp2
  go_ret2
  exact ⟨rfl,rfl⟩
 ·have h1 : decide (n < 0) = false := by simpa using h0
  have h2 : (N.flight.length : Int) ≤ n := by omega
  clear hn h0
  go_enter Try.func61,Try.ntmps61
  go_wp2
  go_ret2
  exact ⟨rfl,rfl⟩
end
end Go.Proofs.Ytclkokkppgchfaa
