/- A part of the proof: texts of this session, joined. -/
import Derived.Test.YtclkokkppgchfaaNegoPlacesOwn16
import Derived.Test.YtclkokkppgchfaaShort
set_option linter.unusedSimpArgs false
set_option linter.unusedVariables false
namespace Go.Proofs.Ytclkokkppgchfaa
open Go.RowKit Go.Ng Go.Proofs.YtclkokkppgchfaaW.PrintLast
section
variable {S : Tag → Prop} {tag tag' : Nat → Tag} {w w' : World} {B q p : Nat} {N : NetM} {P P' : PlaceM}
theorem RNRep.set_place {p2 : Nat} {pv fv cv hv yv dv : Value} {ps : List Nat} (h : RNRep tag B w q N) (hp : p < N.places.length) (hf : Fr S tag tag' w w') (hS : ∀ t,S t → t.1 = B + 1 + p ∨ t = (B,2,0) ∨ B + 32 < t.1) (h32 : N.places.length ≤ 32)
  (hc : w.heap[q]? = some (.cells #[pv,fv,cv,hv,yv,dv] 157 (0,0))) (p1 : ps.length = N.places.length) (p3 : ∀ (i p : Nat) P,ps[i]? = some p → N.places[i]? = some P → RPRep tag (B + 1 + i) w p P)
  (k2 : Row tag' (B,2,0) 31 1 w' pv N.places.length ((ps.set p p2).map rptr)) (hP : RPRep tag' (B + 1 + p) w' p2 P') : RNRep tag' B w' q { N with places := N.places.set p P' } := by
 obtain ⟨pv',fv',cv',hv',yv',dv',h1,_,h4,⟨cvs,h5,h6⟩,h7,⟨yvs,h8,h9⟩,h10⟩ := h.cells
 obtain ⟨rfl,rfl,rfl,rfl,rfl,rfl⟩ : pv' = pv ∧ fv' = fv ∧ cv' = cv ∧ hv' = hv ∧ yv' = yv ∧ dv' = dv := by
  have := h1.symm.trans hc
  simpa using this
 have no : ∀ r j,r ≠ 2 → ¬ S (B,r,j) := fun r j a hs => by
  rcases hS _ hs with e | e | e
  ·simp at e; omega
  ·simp_all
  ·simp at e; omega
 refine ⟨h.b0,(hf.tag_eq hc).trans h.tptr,pv',fv',cv',hv',yv',dv',hf.heap hc (by rw [h.tptr]; exact no _ _ (by decide)),⟨ps.set p p2,by simp [p1],by simpa using k2,fun i x Q a b => ?_⟩,h4.fr hf (no _ _ (by decide)),⟨cvs,h5.fr hf (no _ _ (by decide)),fun i l hl => ?_⟩,h7.fr hf (no _ _ (by decide)),⟨yvs,h8.fr hf (no _ _ (by decide)),fun i l hl => ?_⟩,h10.fr hf (no _ _ (by decide))⟩
 ·have b' : (N.places.set p P')[i]? = some Q := b
  by_cases e : i = p
  ·subst e
   simp [hp] at b'
   simp [p1,hp] at a
   subst a b'
   exact hP
  ·rw [List.getElem?_set_ne (by omega)] at a b'
   have hl := (List.getElem?_eq_some_iff.1 b').1
   refine (p3 i x Q a b').fr hf (fun r j hs => ?_)
   rcases hS _ hs with e' | e' | e'
   ·simp at e'; omega
   ·simp at e'; omega
   ·simp at e'; omega
 ·obtain ⟨v,hv,hr⟩ := h6 i l hl
  exact ⟨v,hv,hr.fr hf (no _ _ (by decide))⟩
 ·obtain ⟨v,hv,hr⟩ := h9 i l hl
  exact ⟨v,hv,hr.fr hf (no _ _ (by decide))⟩
end
end Go.Proofs.Ytclkokkppgchfaa
namespace Go.Ng
open Go Go.RowKit
section
variable {P : Program} {ops : Array Oper} {Q : Exit → Act → World → Prop} {tag : Nat → Tag} {t : Tag} {E sz : Nat} {w : World} {v : Value} {n : Nat} {ks : List Value}
end
end Go.Ng
namespace Go.Proofs.Ytclkokkppgchfaa
open Go.RowKit Go.Ng Go.Proofs.YtclkokkppgchfaaW.PrintLast
section
variable {S : Tag → Prop} {tag tag' : Nat → Tag} {w w' : World} {B q p : Nat} {N : NetM} {P P' : PlaceM}
theorem RNRep.add_claim (h : RNRep tag B w q N) (hf : Fr S tag tag' w w') (hS : ∀ t,S t → t = (B,1,0) ∨ t = (B,5,0) ∨ t = (B,7,0)) (h32 : N.places.length ≤ 32) (l : List Clm) (p : Int)
  {pv0 fv0 cv0 hv0 yv0 dv0 v cv1 hv1 : Value} {cvs : List Value} (hc : w.heap[q]? = some (.cells #[pv0,fv0,cv0,hv0,yv0,dv0] 157 (0,0))) (hcl : cvs.length = N.claims.length)
  (h6 : ∀ (i : Nat) (l : List Clm),N.claims[i]? = some l → ∃ v,cvs[i]? = some v ∧ Row tag (B,6,(i : Int)) 69 2 w v l.length (Ytclkokkppgchfaa.claims l))
  (k1 : w'.heap[q]? = some (.cells #[pv0,fv0,cv1,hv1,yv0,dv0] 157 (0,0)))
  (k5 : Row tag' (B,5,0) 34 1 w' cv1 (N.claims.length + 1) (cvs ++ [v])) (k6 : Row tag' (B,6,(N.claims.length : Int)) 69 2 w' v l.length (Ytclkokkppgchfaa.claims l)) (k7 : Row tag' (B,7,0) 3 1 w' hv1 (N.homes.length + 1) (ints (N.homes ++ [p]))) :
  RNRep tag' B w' q { N with claims := N.claims ++ [l],homes := N.homes ++ [p] } := by
 obtain ⟨pv,fv,cv,hv,yv,dv,h1,⟨ps,p1,p2,p3⟩,h4,_,h7,⟨yvs,h8,h9⟩,h10⟩ := h.cells
 obtain ⟨rfl,rfl,rfl,rfl,rfl,rfl⟩ : pv0 = pv ∧ fv0 = fv ∧ cv0 = cv ∧ hv0 = hv ∧ yv0 = yv ∧ dv0 = dv := by
  have := hc.symm.trans h1
  simpa using this
 have no : ∀ r i,r ≠ 1 → r ≠ 5 → r ≠ 7 → ¬ S (B,r,i) := fun r i a b c hs => by
  rcases hS _ hs with e | e | e <;> simp_all
 refine ⟨h.b0,(hf.tag_eq h1).trans h.tptr,pv0,fv0,cv1,hv1,yv0,dv0,k1,⟨ps,p1,p2.fr hf (no _ _ (by decide) (by decide) (by decide)),fun i x Q a b => ?_⟩,h4.fr hf (no _ _ (by decide) (by decide) (by decide)),⟨cvs ++ [v],by simpa using k5,fun i l' hl => ?_⟩,by simpa using k7,⟨yvs,h8.fr hf (no _ _ (by decide) (by decide) (by decide)),fun i l hl => ?_⟩,h10.fr hf (no _ _ (by decide) (by decide) (by decide))⟩
 ·refine (p3 i x Q a b).fr hf (fun r j hs => ?_)
  rcases hS _ hs with e | e | e <;> simp at e <;> omega
 ·have hl' : (N.claims ++ [l])[i]? = some l' := hl
  rw [List.getElem?_append] at hl'
  split at hl'
  ·rename_i hi
   obtain ⟨u,hu,hr⟩ := h6 i l' hl'
   exact ⟨u,by rw [List.getElem?_append_left (by omega)]; exact hu,hr.fr hf (no _ _ (by decide) (by decide) (by decide))⟩
  ·rename_i hi
   have hi' : i = N.claims.length := by
    by_cases e : i - N.claims.length = 0
    ·omega
    ·rw [List.getElem?_eq_none (by simp; omega)] at hl'; cases hl'
   subst hi'
   simp at hl'
   subst hl'
   exact ⟨v,by rw [List.getElem?_append_right (by omega),hcl]; simp,k6⟩
 ·obtain ⟨v,hv,hr⟩ := h9 i l hl
  exact ⟨v,hv,hr.fr hf (no _ _ (by decide) (by decide) (by decide))⟩
theorem RNRep.place (h : RNRep tag B w q N) (hp : N.places[p]? = some P) : ∃ pb pcap pp,w.cell? ⟨q,0,none⟩ = some (.slice (some ⟨pb,0,none⟩) N.places.length pcap) ∧ N.places.length ≤ pcap ∧ pcap ≤ 9223372036854775807 ∧ w.cell? ⟨pb,p,none⟩ = some (.pointer (some ⟨pp,0,none⟩)) ∧ RPRep tag (B + 1 + p) w pp P := by
 obtain ⟨pv,fv,cv,hv,yv,dv,h1,⟨ps,p1,p2,p3⟩,_⟩ := h.cells
 have hpl := (List.getElem?_eq_some_iff.1 hp).1
 obtain ⟨PA,pcap,rfl,q3,q4⟩ := p2.form
 unfold maxLen at q4
 obtain ⟨pp,hpp⟩ : ∃ c,ps[p]? = some c := ⟨_,List.getElem?_eq_getElem (by omega)⟩
 obtain ⟨pb,rfl,_,_,hpc⟩ := p2.cell rfl (j:=p) (by simp [p1]; omega)
 exact ⟨pb,pcap,pp,cell_of h1 0,q3,q4,by rw [hpc]; simp [hpp,rptr],p3 p pp P hpp hp⟩
theorem rright_nil {k pp : Nat} (A : Option Addr) (cap : Nat) (w : World) : Calls Try.prog 73 #[.pointer (some ⟨pp,0,none⟩),.slice A 0 cap] w fun e w' => e = .returned (.bool false) ∧ w' = w := by
 go_enter Try.func73,Try.ntmps73
 go_wp2_with fail
 go_ret
 exact ⟨rfl,rfl⟩
end
end Go.Proofs.Ytclkokkppgchfaa
