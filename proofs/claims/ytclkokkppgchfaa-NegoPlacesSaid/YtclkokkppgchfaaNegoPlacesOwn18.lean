/- A part of the proof: texts of this session, joined. -/
import Derived.Test.YtclkokkppgchfaaNegoPlacesOwn17
import Derived.Test.YtclkokkppgchfaaPart10
import Derived.Test.YtclkokkppgchfaaShort
set_option linter.unusedSimpArgs false
set_option linter.unusedVariables false
namespace Go.Proofs.Ytclkokkppgchfaa
open Go.RowKit Go.Ng Go.Proofs.YtclkokkppgchfaaW.PrintLast
section
variable {S : Tag → Prop} {tag tag' : Nat → Tag} {w w' : World} {B q p : Nat} {N : NetM} {P P' : PlaceM}
def MidD (tag : Nat → Tag) (w : World) (s : Nat) (w' : World) : Prop :=
 w'.heap[s]? = some (.cells #[.int .i64 0,.slice none 0 0,.int .i64 0,.int .i64 0] 140 (0,0)) ∧ w.heap.size ≤ s ∧ Fr (fun _ => False) tag tag w w'
end
def keysOf (P : PlaceM) : List Int := P.props.map (·.1)
theorem find_none_keys {l : List (Int × PropM)} {n : Int} (h : find l n = none) : n ∉ l.map (·.1) := by
 unfold find at h
 rw [Option.map_eq_none_iff,List.find?_eq_none] at h
 intro hm
 obtain ⟨x,hx,rfl⟩ := List.mem_map.1 hm
 have := h x hx
 simp at this
def ThrNd (g : G) : Prop := ∀ j,(g.items j).thr.Nodup
structure RLive (tag : Nat → Tag) (B : Nat) (w : World) (q : Nat) (N : NetM) (g : G) (k : Nat) : Prop where
 rep : RNRep tag B w q N
 abs : Abs N g
 good : NGood g
 np : g.np ≤ k
 wt : W1.all g ≤ 65 * k
 ok : TagOk tag w
 nd : ∀ (i : Nat) (P : PlaceM),N.places[i]? = some P → (keysOf P).Nodup
 tn : ThrNd g
section
variable {tag : Nat → Tag} {w : World} {B q : Nat} {N : NetM} {g : G} {k : Nat}
theorem RLive.small (L : RLive tag B w q N g k) (hk : k ≤ 150) : Small g := ⟨by have := L.np; omega,by have := L.wt; omega⟩
theorem RLive.fl_len (L : RLive tag B w q N g k) (hk : k ≤ 150) : N.flight.length ≤ 9750 := by
 rw [L.abs.fl]
 have := fl_le g
 have := L.wt
 omega
theorem RLive.p32 (L : RLive tag B w q N g k) : N.places.length ≤ 32 := by rw [L.abs.plen]; exact L.abs.p32.2
theorem RLive.fr {S : Tag → Prop} {tag' : Nat → Tag} {w' : World} (L : RLive tag B w q N g k) (hf : Fr S tag tag' w w') (hS : ∀ t,S t → t.1 < B ∨ B + 32 < t.1) : RLive tag' B w' q N g k :=
 ⟨L.rep.fr hf (fun i r j hi hs => by have := hS _ hs; have := L.p32; simp at *; omega),L.abs,L.good,L.np,L.wt,hf.dom,L.nd,L.tn⟩
theorem RLive.frF {tag' : Nat → Tag} {w' : World} (L : RLive tag B w q N g k) (hf : Fr (fun _ => False) tag tag' w w') : RLive tag' B w' q N g k := L.fr hf (fun _ h => h.elim)
theorem RLive.more (L : RLive tag B w q N g k) {k' : Nat} (h : k ≤ k') : RLive tag B w q N g k' := ⟨L.rep,L.abs,L.good,by have := L.np; omega,by have := L.wt; have := Nat.mul_le_mul_left 65 h; omega,L.ok,L.nd,L.tn⟩
def RDid (tag : Nat → Tag) (B : Nat) (w : World) (q k : Nat) (r : G × Int × List Came × Int) (cv : Value) (w' : World) : Prop :=
 ∃ (tag' : Nat → Tag) (N' : NetM),RLive tag' B w' q N' r.1 k ∧ Rd 3 w' cv r.2.2.1.length (cames r.2.2.1) ∧ Fr (fun t => B ≤ t.1 ∧ t.1 ≤ B + 33) tag tag' w w'
theorem RLive.idle (L : RLive tag B w q N g k) {w' : World} (hf : Fr (fun _ => False) tag tag w w') (r e : Int) : RDid tag B w q (k + 1) (g,r,[],e) (.slice none 0 0) w' :=
 ⟨tag,N,(L.frF hf).more (Nat.le_succ k),⟨rfl,by simp [cames],.inl ⟨rfl,rfl⟩⟩,hf.mono (fun _ h => h.elim)⟩
theorem RDid.more {k' : Nat} {r : G × Int × List Came × Int} {cv : Value} {w' : World} (hk : k ≤ k') (h : RDid tag B w q k r cv w') : RDid tag B w q k' r cv w' := by
 obtain ⟨tag',N',h1,h3,h4⟩ := h
 exact ⟨tag',N',h1.more hk,h3,h4⟩
end
section
variable {tag : Nat → Tag} {w : World} {B q : Nat} {N : NetM} {g : G} {K : Nat}
end
def begunP (i : Nat) (l : List Int) : PlaceM := ⟨0,0,i,l,l.map (fun s => if s = (i : Int) then some ⟨0,0,false,⟨0,0⟩,[],0,[]⟩ else none),[],[],[]⟩
theorem refItems_eq : ∀ n : Nat,(List.replicate n (⟨0,-1,.slice none 0 0,.slice none 0 0⟩ : RIt)).flatMap RIt.cells = refItems n
 | 0 => rfl
 | n + 1 => by
  rw [List.replicate_succ',List.flatMap_append,refItems_eq n]
  rfl
theorem RPlace0.rep {tag : Nat → Tag} {w : World} {k p i : Nat} {l : List Int} (h : RPlace0 tag k w p i l l.length) (hk : k ≠ 0) : RPRep tag k w p (begunP i l) := by
 obtain ⟨av,iv,h1,h2,h3⟩ := h.cells
 rw [List.take_length] at h2
 refine ⟨hk,h.ptr,av,iv,.slice none 0 0,h1,h2,⟨List.replicate l.length ⟨0,-1,.slice none 0 0,.slice none 0 0⟩,by simp [begunP],by rw [List.length_replicate,refItems_eq]; exact h3,fun j o x ho hx => ?_⟩,[],rfl,Row.nil _ _ _ _ _,fun i n y x a b => by simp at b⟩
 have hx' : x = ⟨0,-1,.slice none 0 0,.slice none 0 0⟩ := by
  rw [List.getElem?_replicate] at hx
  split at hx
  ·injection hx with hx; exact hx.symm
  ·cases hx
 subst hx'
 simp only [begunP,List.getElem?_map] at ho
 rcases hl : l[j]? with _ | s
 ·simp [hl] at ho
 ·simp only [hl,Option.map_some,Option.some.injEq] at ho
  split at ho
  ·subst ho
   exact ⟨rfl,rfl,ORow.nil _ _ _ _,Row.nil _ _ _ _ _⟩
  ·subst ho
   rfl
end Go.Proofs.Ytclkokkppgchfaa
